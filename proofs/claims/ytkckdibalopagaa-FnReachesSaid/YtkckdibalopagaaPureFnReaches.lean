/- Proved: at every drawn arena: who knows more can have more, who knows what can be had can have no more, what is sealed with a key that can not be had stays shut; no condition. -/
import Derived.Test.YtkckdibalopagaaSFnReachesx0
import Derived.Test.YtkckdibalopagaaSFnReachesx1
import Derived.Test.YtkckdibalopagaaSFnReachesx2
import Derived.Test.YtkckdibalopagaaSFnReachesx3
import Derived.Test.YtkckdibalopagaaSFnReachesx4
import Derived.Test.YtkckdibalopagaaSFnReachesx5
import Derived.Test.YtkckdibalopagaaSFnReachesx6
import Derived.Test.YtkckdibalopagaaSFnReachesx7
import Derived.Test.YtkckdibalopagaaSFnReachesx8
import Derived.Test.YtkckdibalopagaaSFnReachesx9
import Derived.Test.YtkckdibalopagaaSFnReachesx10
import Derived.Test.YtkckdibalopagaaSFnReachesx11
import Derived.Test.YtkckdibalopagaaSFnReachesx12
import Derived.Test.YtkckdibalopagaaSFnReachesx13
import Derived.Test.YtkckdibalopagaaVBase
import Derived.BigGuard
import Derived.RegionTactic
import Derived.BigRegion
import Derived.Carry
import Derived.DeepKeys4
namespace Go.Proofs.Ytkckdibalopagaa.Pure
open Go.RowKit Go.Proofs.Ytkckdibalopagaa.SFnReaches Go.Proofs.Ytkckdibalopagaa.Base Go.Proofs.YtkckdibalopagaaW.PrintWords Go.Proofs.YtkckdibalopagaaW.PrintLast Go.Proofs.YtkckdibalopagaaW.PrintMore
open Go.Proofs.Ytkckdibalopagaa.SFnReaches.Hand
set_option linter.unusedVariables false
set_option linter.unusedSimpArgs false

attribute [local go_sem] max2_int min2_int max_two min_two max_three min_three max_four min_four
theorem rd_nat {xs : List Int} {i : Nat} (h : i < xs.length) : rd xs (i : Int) = xs[i] := by
  unfold rd
  rw [Int.toNat_natCast, List.getD_eq_getElem?_getD, List.getElem?_eq_getElem h]
  rfl
theorem impl_hasNode_f (l : List S34) (k : Int) (hl : l.length ≤ 9223372036854775807) : impl_hasNode.f l k = some (decide (0 ≤ k) && decide (k ≤ (l.length : Int) - 1)) := by
  unfold impl_hasNode.f
  rw [w64 (by omega) (by omega), impl_within_b]
  rfl

/-! a right node's parts -/
def oneKind (k : Int) : Bool := decide (k = 3 ∨ k = 6)
theorem node_parts {f0 f1 f2 f3 k : Int} (h : nodeB f0 f1 f2 f3 k = true) : (1 ≤ f0 ∧ f0 ≤ 9) ∧ (f0 = 1 → 0 ≤ f1 ∧ f1 ≤ 999999 ∧ f2 = 0 ∧ f3 = 0) ∧ (f0 ≠ 1 → f1 = 0 ∧ 0 ≤ f2 ∧ f2 < k) ∧ ((f0 = 3 ∨ f0 = 6) → f3 = 0) ∧ (f0 ≠ 1 → ¬ (f0 = 3 ∨ f0 = 6) → 0 ≤ f3 ∧ f3 < k) := by
  unfold nodeB at h
  by_cases h1 : f0 = 1
  · rw [if_pos h1] at h
    simp only [Bool.and_eq_true, decide_eq_true_eq] at h
    omega
  · rw [if_neg h1] at h
    by_cases h3 : f0 = 3 ∨ f0 = 6
    · rw [if_pos h3] at h
      simp only [Bool.and_eq_true, decide_eq_true_eq] at h
      omega
    · rw [if_neg h3] at h
      simp only [Bool.and_eq_true, decide_eq_true_eq] at h
      omega
/-- the node's parts, as places -/
theorem right_parts {l : List S34} {i : Nat} (h : rightAt l i = true) : (1 ≤ (nodeOf l i).f0 ∧ (nodeOf l i).f0 ≤ 9) ∧ ((nodeOf l i).f0 = 1 → 0 ≤ (nodeOf l i).f1 ∧ (nodeOf l i).f1 ≤ 999999) ∧
    ((nodeOf l i).f0 ≠ 1 → ∃ a : Nat, (nodeOf l i).f2 = (a : Int) ∧ a < i) ∧ ((nodeOf l i).f0 ≠ 1 → oneKind (nodeOf l i).f0 = false → ∃ b : Nat, (nodeOf l i).f3 = (b : Int) ∧ b < i) := by
  obtain ⟨h0, h1, h2, _, h4⟩ := node_parts h
  refine ⟨h0, fun e => ⟨(h1 e).1, (h1 e).2.1⟩, fun e => ?_, fun e e2 => ?_⟩
  · obtain ⟨a, ha⟩ := Int.eq_ofNat_of_zero_le (h2 e).2.1
    exact ⟨a, ha, by have := (h2 e).2.2; omega⟩
  · have := h4 e (by simpa [oneKind] using e2)
    obtain ⟨b, hb⟩ := Int.eq_ofNat_of_zero_le this.1
    exact ⟨b, hb, by omega⟩

theorem spec_AOk_ev (l : List S34) (hl : l.length ≤ 3000) : ∀ (d i : Nat), l.length - i = d → i ≤ l.length → (∀ j, j < i → rightAt l j = true ∧ dupAt l j = false) → Ev (fun k => spec_ArenaOk.l0 k (i : Int) l) (aok l) := by
  intro d
  induction d with
  | zero =>
    intro i hd hi hall
    rw [aok_true hl (fun j hj => hall j (by omega))]
    exact ev_end (fun k => by rw [spec_ArenaOk.l0, if_neg (by omega)])
  | succ d ih =>
    intro i hd hi hall
    have hlt : i < l.length := by omega
    refine Ev.step (fun k => by rw [spec_ArenaOk.l0, if_pos (by omega), if_pos (by omega), w64 (x := (i : Int) + 1) (by omega) (by omega)]) ?_
    refine Ev.bind (spec_l03Node_f _ _ _ _ (i : Int) (by omega)) ?_
    by_cases hr : rightAt l i = true
    · refine evT hr (Ev.bind (spec_At_f l (by omega) (nodeOf l i)) ?_)
      by_cases hd2 : dupAt l i = false
      · refine evT ((atV_self hlt).2 hd2) ?_
        refine ih (i + 1) (by omega) (by omega) (fun j hj => ?_)
        by_cases e : j = i
        · rw [e]; exact ⟨hr, hd2⟩
        · exact hall j (by omega)
      · refine ev_cast (evF (fun h => hd2 ((atV_self hlt).1 h)) (Ev.now _)) ?_
        rw [aok_false hlt (.inr (by simpa using hd2))]
    · refine ev_cast (evF hr (Ev.now _)) ?_
      rw [aok_false hlt (.inl (by simpa using hr))]
theorem spec_ArenaOk_f (l : List S34) (hl : l.length ≤ 1048576) : Ev (fun k => spec_ArenaOk.f k l) (aok l) := by
  by_cases h : (l.length : Int) > 3000
  · refine ev_cast (evT h (Ev.now _)) ?_
    rw [aok_big (by omega)]
  · exact evF h (spec_AOk_ev l (by omega) l.length 0 (by omega) (by omega) (fun j hj => by omega))

/-! what can be had -/
def has (H : List Bool) (i : Nat) : Bool := H.getD i false
theorem rdOf_has (H : List Bool) (i : Nat) : rdOf false H (i : Int) = has H i := by
  unfold rdOf has
  rw [Int.toNat_natCast]
theorem has_set (H : List Bool) (i j : Nat) (hi : i < H.length) : has (H.set i true) j = (decide (j = i) || has H j) := by
  unfold has
  rw [List.getD_eq_getElem?_getD, List.getD_eq_getElem?_getD, List.getElem?_set]
  by_cases h : i = j
  · subst h
    simp [hi]
  · rw [if_neg h]
    have : ¬ j = i := fun e => h e.symm
    simp [this]
theorem has_lt {H : List Bool} {i : Nat} (h : has H i = true) : i < H.length := by
  by_cases hi : i < H.length
  · exact hi
  · unfold has at h
    rw [List.getD_eq_getElem?_getD, List.getElem?_eq_none (by omega)] at h
    cases h
theorem list_has {H G : List Bool} (hl : H.length = G.length) (h : ∀ i, i < H.length → (has H i = true ↔ has G i = true)) : H = G := by
  apply List.ext_getElem hl
  intro i h1 h2
  have := h i h1
  unfold has at this
  rw [List.getD_eq_getElem?_getD, List.getD_eq_getElem?_getD, List.getElem?_eq_getElem h1, List.getElem?_eq_getElem h2] at this
  simp only [Option.getD_some] at this
  cases e1 : H[i] <;> cases e2 : G[i] <;> simp_all
/-- how many are had -/
def cnt (H : List Bool) : Nat := H.count true
theorem cnt_le (H : List Bool) : cnt H ≤ H.length := List.count_le_length
theorem cnt_set {H : List Bool} {i : Nat} (hi : i < H.length) (h : has H i = false) : cnt (H.set i true) = cnt H + 1 := by
  unfold cnt
  rw [List.count_set hi]
  unfold has at h
  rw [List.getD_eq_getElem?_getD, List.getElem?_eq_getElem hi] at h
  simp only [Option.getD_some] at h
  rw [h]
  simp
/-- kind, and parts, of the node at a place -/
def kd (l : List S34) (i : Nat) : Int := (nodeOf l i).f0
def pA (l : List S34) (i : Nat) : Nat := (nodeOf l i).f2.toNat
def pB (l : List S34) (i : Nat) : Nat := (nodeOf l i).f3.toNat
def IsPub (l : List S34) (a p : Nat) : Prop := p < l.length ∧ kd l p = 6 ∧ pA l p = a
def twoKind (k : Int) : Prop := k ≠ 1 ∧ k ≠ 3 ∧ k ≠ 6 ∧ k ≠ 7
inductive Der (l : List S34) (S : Nat → Prop) : Nat → Prop
  | seed {k : Nat} : k < l.length → S k → Der l S k
  | atom {k : Nat} : k < l.length → kd l k = 1 → (nodeOf l k).f1 < 1000 → Der l S k
  | one {k : Nat} : k < l.length → (kd l k = 3 ∨ kd l k = 6) → Der l S (pA l k) → Der l S k
  | dh1 {k p : Nat} : k < l.length → kd l k = 7 → Der l S (pA l k) → IsPub l (pB l k) p → Der l S p → Der l S k
  | dh2 {k p : Nat} : k < l.length → kd l k = 7 → Der l S (pB l k) → IsPub l (pA l k) p → Der l S p → Der l S k
  | two {k : Nat} : k < l.length → twoKind (kd l k) → Der l S (pA l k) → Der l S (pB l k) → Der l S k
  | left {k : Nat} : k < l.length → kd l k = 2 → Der l S k → Der l S (pA l k)
  | right {k : Nat} : k < l.length → kd l k = 2 → Der l S k → Der l S (pB l k)
  | said {k : Nat} : k < l.length → kd l k = 8 → Der l S k → Der l S (pB l k)
  | opened {k : Nat} : k < l.length → kd l k = 5 → Der l S k → Der l S (pA l k) → Der l S (pB l k)
/-- a node can be made of what is had -/
def Made (l : List S34) (H : List Bool) (k : Nat) : Prop :=
  (kd l k = 1 ∧ (nodeOf l k).f1 < 1000) ∨ ((kd l k = 3 ∨ kd l k = 6) ∧ has H (pA l k) = true) ∨
  (kd l k = 7 ∧ ((has H (pA l k) = true ∧ ∃ p, IsPub l (pB l k) p ∧ has H p = true) ∨ (has H (pB l k) = true ∧ ∃ p, IsPub l (pA l k) p ∧ has H p = true))) ∨
  (twoKind (kd l k) ∧ has H (pA l k) = true ∧ has H (pB l k) = true)
/-- what comes out of a node that is had -/
def Outs (l : List S34) (H : List Bool) (k o : Nat) : Prop :=
  (kd l k = 2 ∧ (o = pA l k ∨ o = pB l k)) ∨ (kd l k = 8 ∧ o = pB l k) ∨ (kd l k = 5 ∧ has H (pA l k) = true ∧ o = pB l k)
def Stable (l : List S34) (H : List Bool) (k : Nat) : Prop := (Made l H k → has H k = true) ∧ (has H k = true → ∀ o, Outs l H k o → has H o = true)
structure Inv (l : List S34) (S : Nat → Prop) (H : List Bool) : Prop where
  len : H.length = l.length
  sound : ∀ i, has H i = true → Der l S i
theorem Inv.set {l : List S34} {S : Nat → Prop} {H : List Bool} (h : Inv l S H) {k : Nat} (hk : k < l.length) (hd : Der l S k) : Inv l S (H.set k true) := by
  refine ⟨by rw [List.length_set]; exact h.len, fun i hi => ?_⟩
  rw [has_set _ _ _ (by rw [h.len]; exact hk)] at hi
  simp only [Bool.or_eq_true, decide_eq_true_eq] at hi
  rcases hi with hi | hi
  · rw [hi]; exact hd
  · exact h.sound i hi
theorem Made.der {l : List S34} {S : Nat → Prop} {H : List Bool} (h : Inv l S H) {k : Nat} (hk : k < l.length) (hm : Made l H k) : Der l S k := by
  rcases hm with hm | hm | hm | hm
  · exact .atom hk hm.1 hm.2
  · exact .one hk hm.1 (h.sound _ hm.2)
  · rcases hm.2 with ⟨h1, p, hp, h2⟩ | ⟨h1, p, hp, h2⟩
    · exact .dh1 hk hm.1 (h.sound _ h1) hp (h.sound _ h2)
    · exact .dh2 hk hm.1 (h.sound _ h1) hp (h.sound _ h2)
  · exact .two hk hm.1 (h.sound _ hm.2.1) (h.sound _ hm.2.2)
theorem Outs.der {l : List S34} {S : Nat → Prop} {H : List Bool} (h : Inv l S H) {k o : Nat} (hk : k < l.length) (hh : has H k = true) (ho : Outs l H k o) : Der l S o := by
  rcases ho with ⟨h1, h2 | h2⟩ | ⟨h1, h2⟩ | ⟨h1, h2, h3⟩
  · rw [h2]; exact .left hk h1 (h.sound _ hh)
  · rw [h2]; exact .right hk h1 (h.sound _ hh)
  · rw [h2]; exact .said hk h1 (h.sound _ hh)
  · rw [h3]; exact .opened hk h1 (h.sound _ hh) (h.sound _ h2)
/-- what is closed, and has what was known, has all that can be had -/
theorem der_has {l : List S34} {S : Nat → Prop} {H : List Bool} (hs : ∀ k, k < l.length → S k → has H k = true) (hc : ∀ k, k < l.length → Stable l H k) {k : Nat} (h : Der l S k) : has H k = true := by
  induction h with
  | seed h1 h2 => exact hs _ h1 h2
  | atom h1 h2 h3 => exact (hc _ h1).1 (.inl ⟨h2, h3⟩)
  | one h1 h2 _ ih => exact (hc _ h1).1 (.inr (.inl ⟨h2, ih⟩))
  | dh1 h1 h2 _ h4 _ ih1 ih2 => exact (hc _ h1).1 (.inr (.inr (.inl ⟨h2, .inl ⟨ih1, _, h4, ih2⟩⟩)))
  | dh2 h1 h2 _ h4 _ ih1 ih2 => exact (hc _ h1).1 (.inr (.inr (.inl ⟨h2, .inr ⟨ih1, _, h4, ih2⟩⟩)))
  | two h1 h2 _ _ ih1 ih2 => exact (hc _ h1).1 (.inr (.inr (.inr ⟨h2, ih1, ih2⟩)))
  | left h1 h2 _ ih => exact (hc _ h1).2 ih _ (.inl ⟨h2, .inl rfl⟩)
  | right h1 h2 _ ih => exact (hc _ h1).2 ih _ (.inl ⟨h2, .inr rfl⟩)
  | said h1 h2 _ ih => exact (hc _ h1).2 ih _ (.inr (.inl ⟨h2, rfl⟩))
  | opened h1 h2 _ _ ih1 ih2 => exact (hc _ h1).2 ih1 _ (.inr (.inr ⟨h2, ih2, rfl⟩))
/-- the list of what can be had -/
structure IsReach (l : List S34) (S : Nat → Prop) (H : List Bool) : Prop where
  len : H.length = l.length
  iff : ∀ i, has H i = true ↔ Der l S i
theorem der_lt {l : List S34} {S : Nat → Prop} (hr : ∀ j, j < l.length → rightAt l j = true) {k : Nat} (h : Der l S k) : k < l.length := by
  induction h with
  | seed h1 _ => exact h1
  | atom h1 _ _ => exact h1
  | one h1 _ _ _ => exact h1
  | dh1 h1 _ _ _ _ _ _ => exact h1
  | dh2 h1 _ _ _ _ _ _ => exact h1
  | two h1 _ _ _ _ _ => exact h1
  | @left k h1 h2 _ _ =>
    obtain ⟨a, ha, hak⟩ := (right_parts (hr k h1)).2.2.1 (by unfold kd at h2; omega)
    unfold pA; rw [ha]; omega
  | @right k h1 h2 _ _ =>
    obtain ⟨a, ha, hak⟩ := (right_parts (hr k h1)).2.2.2 (by unfold kd at h2; omega) (by unfold kd at h2; simp [oneKind, h2])
    unfold pB; rw [ha]; omega
  | @said k h1 h2 _ _ =>
    obtain ⟨a, ha, hak⟩ := (right_parts (hr k h1)).2.2.2 (by unfold kd at h2; omega) (by unfold kd at h2; simp [oneKind, h2])
    unfold pB; rw [ha]; omega
  | @opened k h1 h2 _ _ _ _ =>
    obtain ⟨a, ha, hak⟩ := (right_parts (hr k h1)).2.2.2 (by unfold kd at h2; omega) (by unfold kd at h2; simp [oneKind, h2])
    unfold pB; rw [ha]; omega
theorem isReach_of {l : List S34} {S : Nat → Prop} {H : List Bool} (h : Inv l S H) (hs : ∀ k, k < l.length → S k → has H k = true) (hc : ∀ k, k < l.length → Stable l H k) : IsReach l S H :=
  ⟨h.len, fun i => ⟨h.sound i, der_has hs hc⟩⟩
theorem isReach_eq {l : List S34} {S : Nat → Prop} {H G : List Bool} (h : IsReach l S H) (g : IsReach l S G) : H = G :=
  list_has (h.len.trans g.len.symm) (fun i _ => (h.iff i).trans (g.iff i).symm)
/-- a pub is there once -/
theorem pub_once {l : List S34} (hok : aok l = true) {a p q : Nat} (hp : IsPub l a p) (hq : IsPub l a q) : p = q := by
  obtain ⟨h3, hall⟩ := aok_parts hok
  have key : ∀ {p q : Nat}, IsPub l a p → IsPub l a q → ¬ p < q := by
    intro p q hp hq hlt
    have hd := (hall q hq.1).2
    have np := node_parts (hall p hp.1).1
    have nq := node_parts (hall q hq.1).1
    have kp := hp.2.1
    have kq := hq.2.1
    have ap := hp.2.2
    have aq := hq.2.2
    unfold kd at kp kq
    unfold pA at ap aq
    have e : nodeOf l p = nodeOf l q := by
      have p1 := np.2.2.1 (by omega)
      have q1 := nq.2.2.1 (by omega)
      have p2 := np.2.2.2.1 (by omega)
      have q2 := nq.2.2.2.1 (by omega)
      cases hx : nodeOf l p with
      | mk x0 x1 x2 x3 =>
        cases hy : nodeOf l q with
        | mk y0 y1 y2 y3 =>
          rw [hx] at kp p1 p2 ap
          rw [hy] at kq q1 q2 aq
          simp only at kp kq p1 q1 p2 q2 ap aq
          have a1 : x2 = y2 := by omega
          rw [kp, kq, p1.1, q1.1, p2, q2, a1]
    unfold dupAt at hd
    rw [List.any_eq_false] at hd
    have := hd (nodeOf l p) (by
      rw [nodeOf_get hp.1, List.mem_iff_getElem]
      have := hp.1
      have := hq.1
      exact ⟨p, by rw [List.length_take]; omega, by rw [List.getElem_take]⟩)
    rw [e] at this
    exact this (sameN_refl _)
  have h1 := key hp hq
  have h2 := key hq hp
  omega

/-! how what is had grows -/
theorem set_has {H : List Bool} {a : Nat} (h : has H a = true) : H.set a true = H := by
  apply List.ext_getElem (by simp)
  intro i h1 h2
  rw [List.getElem_set]
  split
  · rename_i e
    subst e
    unfold has at h
    rw [List.getD_eq_getElem?_getD, List.getElem?_eq_getElem h2] at h
    exact h.symm
  · rfl
structure Adv (l : List S34) (S : Nat → Prop) (H : List Bool) (fl : Bool) (H' : List Bool) (fl' : Bool) : Prop where
  inv : Inv l S H'
  sub : ∀ k, has H k = true → has H' k = true
  le : cnt H ≤ cnt H'
  more : fl' = true → fl = true ∨ cnt H < cnt H'
  same : fl' = false → fl = false ∧ H' = H
theorem Adv.refl {l : List S34} {S : Nat → Prop} {H : List Bool} (h : Inv l S H) (fl : Bool) : Adv l S H fl H fl :=
  ⟨h, fun _ h => h, Nat.le_refl _, fun h => .inl h, fun h => ⟨h, rfl⟩⟩
theorem Adv.trans {l : List S34} {S : Nat → Prop} {H H1 H2 : List Bool} {f f1 f2 : Bool} (a : Adv l S H f H1 f1) (b : Adv l S H1 f1 H2 f2) : Adv l S H f H2 f2 := by
  refine ⟨b.inv, fun k h => b.sub k (a.sub k h), Nat.le_trans a.le b.le, fun h => ?_, fun h => ?_⟩
  · have h1 := a.le
    have h2 := b.le
    rcases b.more h with h3 | h3
    · rcases a.more h3 with h4 | h4
      · exact .inl h4
      · exact .inr (by omega)
    · exact .inr (by omega)
  · obtain ⟨h1, h2⟩ := b.same h
    obtain ⟨h3, h4⟩ := a.same h1
    exact ⟨h3, h2.trans h4⟩
theorem Adv.mark {l : List S34} {S : Nat → Prop} {H : List Bool} (h : Inv l S H) (fl : Bool) {k : Nat} (hk : k < l.length) (hd : Der l S k) : Adv l S H fl (H.set k true) (fl || !has H k) := by
  cases hh : has H k with
  | true =>
    rw [set_has hh]
    simp only [Bool.not_true, Bool.or_false]
    exact Adv.refl h fl
  | false =>
    have hl : k < H.length := by rw [h.len]; exact hk
    simp only [Bool.not_false, Bool.or_true]
    refine ⟨h.set hk hd, fun j hj => ?_, ?_, fun _ => .inr ?_, fun e => by cases e⟩
    · rw [has_set _ _ _ hl, hj]; simp
    · rw [cnt_set hl hh]; omega
    · rw [cnt_set hl hh]; omega
/-- the pubs as they are listed: for each place the pub of it, or the mark for none -/
structure Pubs (l : List S34) (d : Int) (P : List Int) (i : Nat) : Prop where
  len : P.length = l.length
  at_ : ∀ a, a < l.length → (rd P (a : Int) = d ∧ ∀ p, p < i → ¬ IsPub l a p) ∨ ∃ p, p < i ∧ IsPub l a p ∧ rd P (a : Int) = (p : Int)
theorem Pubs.skip {l : List S34} {d : Int} {P : List Int} {i : Nat} (h : Pubs l d P i) (hk : kd l i ≠ 6) : Pubs l d P (i + 1) := by
  refine ⟨h.len, fun a ha => ?_⟩
  rcases h.at_ a ha with ⟨h1, h2⟩ | ⟨p, h1, h2, h3⟩
  · refine .inl ⟨h1, fun p hp hq => ?_⟩
    by_cases e : p = i
    · rw [e] at hq; exact hk hq.2.1
    · exact h2 p (by omega) hq
  · exact .inr ⟨p, by omega, h2, h3⟩
theorem Pubs.put {l : List S34} {d : Int} {P : List Int} {i : Nat} (h : Pubs l d P i) (hi : i < l.length) (hk : kd l i = 6) : Pubs l d (P.set (pA l i) (i : Int)) (i + 1) := by
  refine ⟨by rw [List.length_set]; exact h.len, fun a ha => ?_⟩
  have hl := h.len
  have e1 : rd (P.set (pA l i) (i : Int)) (a : Int) = if pA l i = a then (i : Int) else rd P (a : Int) := by
    rw [rd_nat (by rw [List.length_set, hl]; exact ha), List.getElem_set, rd_nat (by rw [hl]; exact ha)]
  by_cases e : pA l i = a
  · exact .inr ⟨i, by omega, ⟨hi, hk, e⟩, by rw [e1, if_pos e]⟩
  · rcases h.at_ a ha with ⟨h1, h2⟩ | ⟨p, h1, h2, h3⟩
    · refine .inl ⟨by rw [e1, if_neg e]; exact h1, fun p hp hq => ?_⟩
      by_cases e2 : p = i
      · rw [e2] at hq; exact e hq.2.2
      · exact h2 p (by omega) hq
    · exact .inr ⟨p, by omega, h2, by rw [e1, if_neg e]; exact h3⟩
theorem rd_rep {n a : Nat} {d : Int} (h : a < n) : rd (List.replicate n d) (a : Int) = d := by
  rw [rd_nat (by simpa using h), List.getElem_replicate]
theorem Pubs.none (l : List S34) (d : Int) : Pubs l d (List.replicate l.length d) 0 :=
  ⟨by simp, fun a ha => .inl ⟨rd_rep ha, fun p hp => by omega⟩⟩
theorem pubs_one {l : List S34} (hr : ∀ j, j < l.length → rightAt l j = true) {a p : Nat} (h : IsPub l a p) : a < p ∧ p < l.length := by
  obtain ⟨b, hb, hbk⟩ := (right_parts (hr p h.1)).2.2.1 (by have := h.2.1; unfold kd at this; omega)
  have h2 := h.2.2
  unfold pA at h2
  rw [hb] at h2
  exact ⟨by omega, h.1⟩
/-- what the program asks of a place's pub -/
def pubHad (H : List Bool) (P : List Int) (d : Int) (a : Nat) : Bool := decide (rd P (a : Int) ≥ d) && rdOf false H (rd P (a : Int))
theorem pubHad_iff {l : List S34} (hok : aok l = true) {d : Int} {P : List Int} {H : List Bool} (h : Pubs l (d - 1) P l.length) (hd : d ≤ 1) {a : Nat} (ha : a < l.length) : pubHad H P d a = true ↔ ∃ p, IsPub l a p ∧ has H p = true := by
  have hr : ∀ j, j < l.length → rightAt l j = true := fun j hj => ((aok_parts hok).2 j hj).1
  unfold pubHad
  rw [Bool.and_eq_true, decide_eq_true_eq]
  rcases h.at_ a ha with ⟨h1, h2⟩ | ⟨p, h1, h2, h3⟩
  · rw [h1]
    constructor
    · intro ⟨e, _⟩; omega
    · intro ⟨p, e, _⟩; exact absurd e (h2 p e.1)
  · have hb := pubs_one hr h2
    rw [h3, rdOf_has]
    constructor
    · intro ⟨_, e⟩; exact ⟨p, h2, e⟩
    · intro ⟨q, e1, e2⟩
      rw [pub_once hok h2 e1]
      exact ⟨by have := pubs_one hr e1; omega, e2⟩
theorem pubs_range {l : List S34} {d : Int} {P : List Int} {i : Nat} (h : Pubs l d P i) (hd : d < l.length) {a : Nat} (ha : a < l.length) : rd P (a : Int) < (l.length : Int) := by
  rcases h.at_ a ha with ⟨h1, _⟩ | ⟨p, _, h2, h3⟩
  · rw [h1]; exact hd
  · rw [h3]; have := h2.1; omega
def madeB (H : List Bool) (P : List Int) (d : Int) (k f1 : Int) (a b : Nat) : Bool :=
  if k = 1 then decide (f1 < 1000) else if k = 3 ∨ k = 6 then has H a else if k = 7 then (has H a && pubHad H P d b) || (has H b && pubHad H P d a) else has H a && has H b
theorem madeB_iff {l : List S34} (hok : aok l = true) {d : Int} {P : List Int} {H : List Bool} (h : Pubs l (d - 1) P l.length) (hd : d ≤ 1) {i : Nat} (hi : i < l.length) : madeB H P d (kd l i) (nodeOf l i).f1 (pA l i) (pB l i) = true ↔ Made l H i := by
  have hr := ((aok_parts hok).2 i hi).1
  have rp := right_parts hr
  unfold madeB Made twoKind
  by_cases h1 : kd l i = 1
  · simp [h1]
  · rw [if_neg h1]
    by_cases h3 : kd l i = 3 ∨ kd l i = 6
    · rw [if_pos h3]
      have h7 : ¬ kd l i = 7 := by omega
      constructor
      · intro e; exact .inr (.inl ⟨h3, e⟩)
      · rintro (e | e | e | e)
        · exact absurd e.1 h1
        · exact e.2
        · exact absurd e.1 h7
        · omega
    · rw [if_neg h3]
      obtain ⟨a, ha, hai⟩ := rp.2.2.1 h1
      obtain ⟨b, hb, hbi⟩ := rp.2.2.2 h1 (by unfold kd at h3; simpa [oneKind] using h3)
      have ea : pA l i = a := by unfold pA; rw [ha]; rfl
      have eb : pB l i = b := by unfold pB; rw [hb]; rfl
      rw [ea, eb]
      by_cases h7 : kd l i = 7
      · rw [if_pos h7, Bool.or_eq_true, Bool.and_eq_true, Bool.and_eq_true, pubHad_iff hok h hd (by omega), pubHad_iff hok h hd (by omega)]
        constructor
        · intro e; exact .inr (.inr (.inl ⟨h7, e⟩))
        · rintro (e | e | e | e)
          · exact absurd e.1 h1
          · exact absurd e.1 h3
          · exact e.2
          · exact absurd h7 e.1.2.2.2
      · rw [if_neg h7, Bool.and_eq_true]
        constructor
        · intro e; exact .inr (.inr (.inr ⟨⟨h1, by omega, by omega, h7⟩, e⟩))
        · rintro (e | e | e | e)
          · exact absurd e.1 h1
          · exact absurd e.1 h3
          · exact absurd e.1 h7
          · exact e.2
/-- what comes out of a node, as a list -/
def outL (l : List S34) (H : List Bool) (i : Nat) : List Nat := if has H i = true then (if kd l i = 2 then [pA l i, pB l i] else if kd l i = 8 then [pB l i] else if kd l i = 5 then (if has H (pA l i) = true then [pB l i] else []) else []) else []
theorem outL_iff {l : List S34} {H : List Bool} {i o : Nat} (h : has H i = true) : o ∈ outL l H i ↔ Outs l H i o := by
  unfold outL Outs
  rw [if_pos h]
  by_cases h2 : kd l i = 2
  · rw [if_pos h2, h2]; simp
  · rw [if_neg h2]
    by_cases h8 : kd l i = 8
    · rw [if_pos h8, h8]; simp
    · rw [if_neg h8]
      by_cases h5 : kd l i = 5
      · rw [if_pos h5, h5]
        by_cases ha : has H (pA l i) = true
        · rw [if_pos ha]; simp [ha]
        · rw [if_neg ha]; simp [ha]
      · rw [if_neg h5]; simp [h2, h8, h5]
theorem outL_nil {l : List S34} {H : List Bool} {i : Nat} (h : ¬ has H i = true) : outL l H i = [] := by
  unfold outL
  rw [if_neg h]
theorem part_le {l : List S34} (hok : aok l = true) {i : Nat} (hi : i < l.length) (h1 : kd l i ≠ 1) : (nodeOf l i).f2 = (pA l i : Int) ∧ pA l i < i ∧ (oneKind (kd l i) = false → (nodeOf l i).f3 = (pB l i : Int) ∧ pB l i < i) := by
  have rp := right_parts ((aok_parts hok).2 i hi).1
  obtain ⟨a, ha, hai⟩ := rp.2.2.1 h1
  have ea : pA l i = a := by unfold pA; rw [ha]; rfl
  refine ⟨by rw [ea, ha], by omega, fun ho => ?_⟩
  obtain ⟨b, hb, hbi⟩ := rp.2.2.2 h1 ho
  have eb : pB l i = b := by unfold pB; rw [hb]; rfl
  exact ⟨by rw [eb, hb], by omega⟩

/-! the program's own walk over what can be had -/
theorem impl_dh {H : List Bool} {P : List Int} {a b : Nat} (ha : a < H.length) (hb : b < H.length) (hP : P.length = H.length) (hr : ∀ x : Nat, x < H.length → rd P (x : Int) < (H.length : Int)) (k : Nat) (y0 y1 : Int) : impl_canMake.j0 (k + 1) H P 7 false y0 y1 (a : Int) (b : Int) = some ((has H a && pubHad H P 1 b) || (has H b && pubHad H P 1 a)) := by
  have a1 := hr a ha
  have b1 := hr b hb
  have e1 : ((a : Int) < (H.length : Int)) = True := eq_true (by omega)
  have e2 : ((b : Int) < (H.length : Int)) = True := eq_true (by omega)
  have e3 : ((a : Int) < (P.length : Int)) = True := eq_true (by omega)
  have e4 : ((b : Int) < (P.length : Int)) = True := eq_true (by omega)
  have e5 : (rd P (a : Int) < (H.length : Int)) = True := eq_true a1
  have e6 : (rd P (b : Int) < (H.length : Int)) = True := eq_true b1
  have e7 : (0 ≤ (a : Int)) = True := eq_true (by omega)
  have e8 : (0 ≤ (b : Int)) = True := eq_true (by omega)
  rw [impl_canMake.j0]
  simp only [e1, e2, e3, e4, e5, e6, e7, e8, if_true, rdOf_has]
  unfold pubHad
  by_cases c1 : rd P (a : Int) > 0
  · have f1 : (rd P (a : Int) > 0) = True := eq_true c1
    have f2 : (0 ≤ rd P (a : Int)) = True := eq_true (by omega)
    have f3 : decide (rd P (a : Int) ≥ 1) = true := decide_eq_true (by omega)
    simp only [f1, f2, f3, if_true]
    by_cases c2 : rd P (b : Int) > 0
    · have g1 : (rd P (b : Int) > 0) = True := eq_true c2
      have g2 : (0 ≤ rd P (b : Int)) = True := eq_true (by omega)
      have g3 : decide (rd P (b : Int) ≥ 1) = true := decide_eq_true (by omega)
      simp only [g1, g2, g3, if_true]
      cases has H a <;> cases has H b <;> cases rdOf false H (rd P (a : Int)) <;> cases rdOf false H (rd P (b : Int)) <;> rfl
    · have g1 : (rd P (b : Int) > 0) = False := eq_false c2
      have g3 : decide (rd P (b : Int) ≥ 1) = false := decide_eq_false (by omega)
      simp only [g1, g3, if_false]
      cases has H a <;> cases has H b <;> cases rdOf false H (rd P (a : Int)) <;> rfl
  · have f1 : (rd P (a : Int) > 0) = False := eq_false c1
    have f3 : decide (rd P (a : Int) ≥ 1) = false := decide_eq_false (by omega)
    simp only [f1, f3, if_false]
    by_cases c2 : rd P (b : Int) > 0
    · have g1 : (rd P (b : Int) > 0) = True := eq_true c2
      have g2 : (0 ≤ rd P (b : Int)) = True := eq_true (by omega)
      have g3 : decide (rd P (b : Int) ≥ 1) = true := decide_eq_true (by omega)
      simp only [g1, g2, g3, if_true]
      cases has H a <;> cases has H b <;> cases rdOf false H (rd P (b : Int)) <;> rfl
    · have g1 : (rd P (b : Int) > 0) = False := eq_false c2
      have g3 : decide (rd P (b : Int) ≥ 1) = false := decide_eq_false (by omega)
      simp only [g1, g3, if_false]
      cases has H a <;> cases has H b <;> rfl
theorem impl_one {H : List Bool} {P : List Int} {a : Nat} (ha : a < H.length) (k : Nat) (y y0 y1 y3 : Int) : impl_canMake.j0 (k + 1) H P y true y0 y1 (a : Int) y3 = some (has H a) := by
  rw [impl_canMake.j0, if_pos rfl, if_pos (by omega), if_pos (by omega), rdOf_has]
theorem impl_two {H : List Bool} {P : List Int} {a b : Nat} (ha : a < H.length) (hb : b < H.length) {y : Int} (hy : y ≠ 7) (k : Nat) (y0 y1 : Int) : impl_canMake.j0 (k + 1) H P y false y0 y1 (a : Int) (b : Int) = some (has H a && has H b) := by
  rw [impl_canMake.j0, if_neg (by simp), if_neg hy, if_pos (by omega), if_pos (by omega), rdOf_has]
  by_cases h : has H a = true
  · rw [if_pos h, if_pos (by omega), if_pos (by omega), rdOf_has, h]; simp
  · rw [if_neg h]; simp [h]
theorem impl_canMake_ev {l : List S34} (hok : aok l = true) {P : List Int} {H : List Bool} (hP : Pubs l 0 P l.length) (hH : H.length = l.length) {i : Nat} (hi : i < l.length) (hne : kd l i ≠ 1) :
    Ev (fun k => impl_canMake.f k (nodeOf l i).f0 (nodeOf l i).f1 (nodeOf l i).f2 (nodeOf l i).f3 H P) (madeB H P 1 (kd l i) (nodeOf l i).f1 (pA l i) (pB l i)) := by
  obtain ⟨h2, hA, hBo⟩ := part_le hok hi hne
  have hPl := hP.len
  have hr : ∀ x : Nat, x < H.length → rd P (x : Int) < (H.length : Int) := fun x hx => by
    have := pubs_range hP (by omega) (a := x) (by omega)
    omega
  refine evF hne ?_
  unfold madeB
  rw [if_neg hne, h2]
  by_cases h3 : kd l i = 3
  · have e : ((nodeOf l i).f0 == 3) = true := by rw [beq_iff_eq]; exact h3
    rw [if_pos (.inl h3)]
    refine evT h3 (ev_end (fun k => ?_))
    rw [e, impl_one (by omega)]
  · by_cases h6 : kd l i = 6
    · have e : ((nodeOf l i).f0 == 6) = true := by rw [beq_iff_eq]; exact h6
      rw [if_pos (.inr h6)]
      refine evF h3 (ev_end (fun k => ?_))
      rw [e, impl_one (by omega)]
    · have e : ((nodeOf l i).f0 == 6) = false := by rw [beq_eq_false_iff_ne]; exact h6
      obtain ⟨h4, hB⟩ := hBo (by simp [oneKind, h3, h6])
      rw [if_neg (by omega), h4]
      by_cases h7 : kd l i = 7
      · rw [if_pos h7]
        have e7 : (nodeOf l i).f0 = 7 := h7
        refine evF h3 (ev_end (fun k => ?_))
        rw [e, e7, impl_dh (by omega) (by omega) (by omega) hr]
      · rw [if_neg h7]
        refine evF h3 (ev_end (fun k => ?_))
        rw [e, impl_two (y := (nodeOf l i).f0) (by omega) (by omega) h7]
theorem impl_partsOut_ok {l : List S34} (hok : aok l = true) {H : List Bool} (hH : H.length = l.length) {i : Nat} (hi : i < l.length) :
    impl_partsOut.f (nodeOf l i).f0 (nodeOf l i).f1 (nodeOf l i).f2 (nodeOf l i).f3 (i : Int) H = some ((outL l H i).map (fun o : Nat => (o : Int))) := by
  unfold impl_partsOut.f outL
  have ek : (nodeOf l i).f0 = kd l i := rfl
  rw [if_pos (by omega), if_pos (by omega), rdOf_has, ek]
  by_cases hh : has H i = true
  · rw [if_pos hh, if_pos hh]
    by_cases h2 : kd l i = 2
    · obtain ⟨h4, hA, hBo⟩ := part_le hok hi (by omega)
      obtain ⟨h5, hB⟩ := hBo (by simp [oneKind, h2])
      rw [if_pos h2, if_pos h2, h4, h5]; rfl
    · rw [if_neg h2, if_neg h2]
      by_cases h8 : kd l i = 8
      · obtain ⟨h4, hA, hBo⟩ := part_le hok hi (by omega)
        obtain ⟨h5, hB⟩ := hBo (by simp [oneKind, h8])
        rw [if_pos h8, if_pos h8, h5]; rfl
      · rw [if_neg h8, if_neg h8]
        by_cases h5 : kd l i = 5
        · obtain ⟨h4, hA, hBo⟩ := part_le hok hi (by omega)
          obtain ⟨h6, hB⟩ := hBo (by simp [oneKind, h5])
          rw [if_pos h5, if_pos h5, h4, if_pos (by omega), if_pos (by omega), rdOf_has, h6]
          by_cases hA' : has H (pA l i) = true
          · rw [if_pos hA', if_pos hA']; rfl
          · rw [if_neg hA', if_neg hA']; rfl
        · rw [if_neg h5, if_neg h5]; rfl
  · rw [if_neg hh, if_neg hh]; rfl
theorem outL_good {l : List S34} (hok : aok l = true) {S : Nat → Prop} {H : List Bool} (h : Inv l S H) {i : Nat} (hi : i < l.length) : ∀ o ∈ outL l H i, o < l.length ∧ Der l S o := by
  intro o ho
  by_cases hh : has H i = true
  · have hd := Outs.der h hi hh ((outL_iff hh).1 ho)
    exact ⟨der_lt (fun j hj => ((aok_parts hok).2 j hj).1) hd, hd⟩
  · rw [outL_nil hh] at ho; cases ho
/-- the loop over what comes out of a node -/
theorem impl_outs_ev {l : List S34} {S : Nat → Prop} {P : List Int} {i : Int} (os : List Nat) (ho : ∀ o ∈ os, o < l.length ∧ Der l S o) (hos : os.length ≤ 2) :
    ∀ (d j : Nat), os.length - j = d → j ≤ os.length → ∀ (H : List Bool) (fl : Bool), Inv l S H →
    ∃ H' fl', Adv l S H fl H' fl' ∧ (∀ o ∈ os.drop j, has H' o = true) ∧ ∀ r, Ev (fun k => impl_Reach.l3 k H' P fl' l (l.length : Int) (wrap64 (i + 1)) l) r →
      Ev (fun k => impl_Reach.l4 k H P fl l (l.length : Int) i (os.map (fun o : Nat => (o : Int))) (os.length : Int) (j : Int) l) r := by
  intro d
  induction d with
  | zero =>
    intro j hd hj H fl h
    refine ⟨H, fl, Adv.refl h fl, fun o ho => ?_, fun r e => ?_⟩
    · rw [List.drop_eq_nil_of_le (by omega)] at ho; cases ho
    · exact Ev.step (fun k => by rw [impl_Reach.l4, if_neg (by omega)]) e
  | succ d ih =>
    intro j hd hj H fl h
    have hlt : j < os.length := by omega
    have hm : j < (os.map (fun o : Nat => (o : Int))).length := by simpa using hlt
    have hv : rd (os.map (fun o : Nat => (o : Int))) (j : Int) = ((os[j] : Nat) : Int) := by rw [rd_nat hm, List.getElem_map]
    obtain ⟨ho1, ho2⟩ := ho os[j] (List.getElem_mem hlt)
    have hl := h.len
    have key : ∀ H1 f1, Adv l S H fl H1 f1 → has H1 os[j] = true → (∀ r, Ev (fun k => impl_Reach.l4 k H1 P f1 l (l.length : Int) i (os.map (fun o : Nat => (o : Int))) (os.length : Int) ((j + 1 : Nat) : Int) l) r → Ev (fun k => impl_Reach.l4 k H P fl l (l.length : Int) i (os.map (fun o : Nat => (o : Int))) (os.length : Int) (j : Int) l) r) →
        ∃ H' fl', Adv l S H fl H' fl' ∧ (∀ o ∈ os.drop j, has H' o = true) ∧ ∀ r, Ev (fun k => impl_Reach.l3 k H' P fl' l (l.length : Int) (wrap64 (i + 1)) l) r → Ev (fun k => impl_Reach.l4 k H P fl l (l.length : Int) i (os.map (fun o : Nat => (o : Int))) (os.length : Int) (j : Int) l) r := by
      intro H1 f1 a1 hh g
      obtain ⟨H', fl', a2, h2, h3⟩ := ih (j + 1) (by omega) (by omega) H1 f1 a1.inv
      refine ⟨H', fl', a1.trans a2, fun o ho => ?_, fun r e => g r (h3 r e)⟩
      rw [List.drop_eq_getElem_cons hlt] at ho
      rcases List.mem_cons.1 ho with e | e
      · rw [e]; exact a2.sub _ hh
      · exact h2 o e
    by_cases hh : has H os[j] = true
    · refine key H fl (Adv.refl h fl) hh (fun r e => Ev.step (fun k => by rw [impl_Reach.l4, if_pos (by omega), if_pos (by omega), if_pos (by omega), hv, if_pos (by omega), if_pos (by omega), rdOf_has, if_pos hh, w64 (by omega) (by omega)]; rfl) e)
    · have hm := Adv.mark h fl ho1 ho2
      have e1 : (fl || !has H os[j]) = true := by simp [hh]
      rw [e1] at hm
      refine key _ true hm (by rw [has_set _ _ _ (by omega)]; simp) (fun r e => Ev.step (fun k => by rw [impl_Reach.l4, if_pos (by omega), if_pos (by omega), if_pos (by omega), hv, if_pos (by omega), if_pos (by omega), rdOf_has, if_neg hh, w64 (by omega) (by omega), Int.toNat_natCast]; rfl) e)
def AtomsHad (l : List S34) (H : List Bool) : Prop := ∀ k, k < l.length → kd l k = 1 → (nodeOf l k).f1 < 1000 → has H k = true
/-- one walk over the nodes -/
theorem impl_pass_ev {l : List S34} (hok : aok l = true) {S : Nat → Prop} {P : List Int} (hP : Pubs l 0 P l.length) :
    ∀ (d i : Nat), l.length - i = d → i ≤ l.length → ∀ (H : List Bool) (fl : Bool), Inv l S H → AtomsHad l H →
    ∃ H' fl', Adv l S H fl H' fl' ∧ (fl' = false → ∀ k, i ≤ k → k < l.length → Stable l H k) ∧ ∀ r, Ev (fun k => impl_Reach.l2 k H' P fl' l) r →
      Ev (fun k => impl_Reach.l3 k H P fl l (l.length : Int) (i : Int) l) r := by
  have hn := (aok_parts hok).1
  intro d
  induction d with
  | zero =>
    intro i hd hi H fl h _
    exact ⟨H, fl, Adv.refl h fl, fun _ k h1 h2 => by omega, fun r e => Ev.step (fun k => by rw [impl_Reach.l3, if_neg (by omega)]) e⟩
  | succ d ih =>
    intro i hd hi H fl h hat
    have hlt : i < l.length := by omega
    have hl := h.len
    have hnode : rd_T34 l (i : Int) = nodeOf l i := rfl
    -- what is made of the node
    have stepA : ∃ H1 f1, Adv l S H fl H1 f1 ∧ (f1 = false → (Made l H i → has H i = true)) ∧ ∀ r, Ev (fun k => impl_Reach.j5 k H1 P f1 (i : Int) l (l.length : Int) (i : Int) l (nodeOf l i).f0 (nodeOf l i).f1 (nodeOf l i).f2 (nodeOf l i).f3) r →
        Ev (fun k => impl_Reach.l3 k H P fl l (l.length : Int) (i : Int) l) r := by
      by_cases hh : has H i = true
      · refine ⟨H, fl, Adv.refl h fl, fun _ _ => hh, fun r e => Ev.step (fun k => by rw [impl_Reach.l3, if_pos (by omega), if_pos (by omega), if_pos (by omega), if_pos (by omega), rdOf_has, if_pos hh, hnode]) ?_⟩
        exact Ev.step (fun k => by rw [impl_Reach.j4, if_neg (by simp)]) e
      · have go : ∀ m : Bool, Ev (fun k => impl_canMake.f k (nodeOf l i).f0 (nodeOf l i).f1 (nodeOf l i).f2 (nodeOf l i).f3 H P) m → (m = true → Made l H i) → (m = false → Made l H i → has H i = true) →
            ∃ H1 f1, Adv l S H fl H1 f1 ∧ (f1 = false → (Made l H i → has H i = true)) ∧ ∀ r, Ev (fun k => impl_Reach.j5 k H1 P f1 (i : Int) l (l.length : Int) (i : Int) l (nodeOf l i).f0 (nodeOf l i).f1 (nodeOf l i).f2 (nodeOf l i).f3) r → Ev (fun k => impl_Reach.l3 k H P fl l (l.length : Int) (i : Int) l) r := by
          intro m hm h1 h2
          cases m with
          | true =>
            have ha := Adv.mark h fl hlt (Made.der h hlt (h1 rfl))
            have e1 : (fl || !has H i) = true := by simp [hh]
            rw [e1] at ha
            refine ⟨_, true, ha, fun e => (by cases e), fun r e => Ev.step (fun k => by rw [impl_Reach.l3, if_pos (by omega), if_pos (by omega), if_pos (by omega), if_pos (by omega), rdOf_has, if_neg hh, hnode]) (Ev.bind hm ?_)⟩
            exact Ev.step (fun k => by rw [impl_Reach.j4, if_pos rfl, if_pos (by omega), if_pos (by omega), Int.toNat_natCast]) e
          | false =>
            refine ⟨H, fl, Adv.refl h fl, fun _ => h2 rfl, fun r e => Ev.step (fun k => by rw [impl_Reach.l3, if_pos (by omega), if_pos (by omega), if_pos (by omega), if_pos (by omega), rdOf_has, if_neg hh, hnode]) (Ev.bind hm ?_)⟩
            exact Ev.step (fun k => by rw [impl_Reach.j4, if_neg (by simp)]) e
        by_cases h1 : kd l i = 1
        · refine go false ⟨0, fun k _ => ?_⟩ (fun e => by cases e) (fun _ hm => ?_)
          · show impl_canMake.f k _ _ _ _ H P = some false
            unfold impl_canMake.f
            rw [if_pos (show (nodeOf l i).f0 = 1 from h1)]
          · rcases hm with e | e | e | e
            · exact hat i hlt e.1 e.2
            · omega
            · omega
            · exact absurd h1 e.1.1
        · have hmi := madeB_iff hok (d := 1) (H := H) hP (by omega) hlt
          exact go _ (impl_canMake_ev hok hP (by omega) hlt h1) (fun e => hmi.1 e) (fun e hm => by rw [hmi.2 hm] at e; cases e)
    obtain ⟨H1, f1, a1, s1, g1⟩ := stepA
    have hl1 := a1.inv.len
    have hos : (outL l H1 i).length ≤ 2 := by
      unfold outL
      repeat' split
      all_goals simp
    obtain ⟨H2, f2, a2, s2, g2⟩ := impl_outs_ev (P := P) (i := (i : Int)) (outL l H1 i) (outL_good hok a1.inv hlt) hos (outL l H1 i).length 0 (by omega) (by omega) H1 f1 a1.inv
    obtain ⟨H3, f3, a3, s3, g3⟩ := ih (i + 1) (by omega) (by omega) H2 f2 a2.inv (fun k h1 h2 h3 => a2.sub _ (a1.sub _ (hat k h1 h2 h3)))
    refine ⟨H3, f3, a1.trans (a2.trans a3), fun e k hk1 hk2 => ?_, fun r e => g1 r ?_⟩
    · obtain ⟨e2, q2⟩ := a3.same e
      obtain ⟨e1, q1⟩ := a2.same e2
      obtain ⟨_, q0⟩ := a1.same e1
      by_cases ek : k = i
      · subst ek
        refine ⟨s1 e1, fun hh o hO => ?_⟩
        have hh1 : has H1 k = true := a1.sub _ hh
        have := s2 o (by rw [List.drop_zero]; exact (outL_iff hh1).2 (by rw [q0]; exact hO))
        rw [q1, q0] at this
        exact this
      · have := s3 e k (by omega) hk2
        rw [q1, q0] at this
        exact this
    · refine Ev.step (fun k => by rw [impl_Reach.j5]) (ev_now (impl_partsOut_ok hok (by omega) hlt) ?_)
      rw [List.length_map]
      exact g2 r (by rw [w64 (by omega) (by omega)]; exact g3 r e)
theorem impl_all_ev {l : List S34} (hok : aok l = true) {S : Nat → Prop} {P : List Int} (hP : Pubs l 0 P l.length) :
    ∀ (n : Nat) (H : List Bool), l.length - cnt H ≤ n → Inv l S H → AtomsHad l H → (∀ k, k < l.length → S k → has H k = true) → ∃ H', IsReach l S H' ∧ Ev (fun k => impl_Reach.l2 k H P true l) H' := by
  intro n
  induction n with
  | zero =>
    intro H hn h hat hs
    obtain ⟨H1, f1, a1, s1, g1⟩ := impl_pass_ev hok hP l.length 0 (by omega) (by omega) H false h hat
    have hc1 := cnt_le H1
    have hl1 := a1.inv.len
    cases f1 with
    | true =>
      rcases a1.more rfl with e | e
      · cases e
      · omega
    | false =>
      obtain ⟨_, e⟩ := a1.same rfl
      refine ⟨H, isReach_of h hs (fun k hk => s1 rfl k (by omega) hk), Ev.step (fun k => by rw [impl_Reach.l2, if_pos rfl]; rfl) (g1 H ?_)⟩
      rw [e]
      exact ev_end (fun k => by rw [impl_Reach.l2, if_neg (by simp)])
  | succ n ih =>
    intro H hn h hat hs
    obtain ⟨H1, f1, a1, s1, g1⟩ := impl_pass_ev hok hP l.length 0 (by omega) (by omega) H false h hat
    cases f1 with
    | true =>
      rcases a1.more rfl with e | e
      · cases e
      · obtain ⟨H', h1, h2⟩ := ih H1 (by omega) a1.inv (fun k h1 h2 h3 => a1.sub _ (hat k h1 h2 h3)) (fun k h1 h2 => a1.sub _ (hs k h1 h2))
        exact ⟨H', h1, Ev.step (fun k => by rw [impl_Reach.l2, if_pos rfl]; rfl) (g1 H' h2)⟩
    | false =>
      obtain ⟨_, e⟩ := a1.same rfl
      refine ⟨H, isReach_of h hs (fun k hk => s1 rfl k (by omega) hk), Ev.step (fun k => by rw [impl_Reach.l2, if_pos rfl]; rfl) (g1 H ?_)⟩
      rw [e]
      exact ev_end (fun k => by rw [impl_Reach.l2, if_neg (by simp)])
def known (ks : List Int) (k : Nat) : Prop := (k : Int) ∈ ks
theorem impl_seeds_ev {l : List S34} (hok : aok l = true) (ks : List Int) (hks : ks.length ≤ 1048576) :
    ∀ (d j : Nat), ks.length - j = d → j ≤ ks.length → ∀ H, Inv l (known ks) H → (∀ x ∈ ks.take j, ∀ k : Nat, x = (k : Int) → k < l.length → has H k = true) →
    ∃ H', Inv l (known ks) H' ∧ (∀ k, k < l.length → known ks k → has H' k = true) ∧ ∀ r, Ev (fun k => impl_Reach.l1 k H' (List.replicate l.length 0) l (l.length : Int) 0 l) r → Ev (fun k => impl_Reach.l0 k H ks (ks.length : Int) (j : Int) l) r := by
  have hn := (aok_parts hok).1
  intro d
  induction d with
  | zero =>
    intro j hd hj H h hs
    refine ⟨H, h, fun k hk hS => hs _ (by rw [List.take_of_length_le (by omega)]; exact hS) k rfl hk, fun r e => Ev.step (fun k => by rw [impl_Reach.l0, if_neg (by omega), if_pos (by omega), Int.toNat_natCast, if_pos (by omega)]) e⟩
  | succ d ih =>
    intro j hd hj H h hs
    have hlt : j < ks.length := by omega
    have hl := h.len
    have hv := rd_nat hlt
    have hf : impl_hasNode.f l (ks[j]) = some (decide (0 ≤ ks[j] ∧ ks[j] ≤ (l.length : Int) - 1)) := by
      rw [impl_hasNode_f l (ks[j]) (by omega), Bool.decide_and]
    by_cases hx : 0 ≤ ks[j] ∧ ks[j] ≤ (l.length : Int) - 1
    · obtain ⟨m, hm⟩ := Int.eq_ofNat_of_zero_le hx.1
      have hmem : known ks m := by unfold known; rw [← hm]; exact List.getElem_mem hlt
      have hml : m < l.length := by omega
      have hx3 : ks[j] < (H.length : Int) := by omega
      obtain ⟨H', h1, h2, h3⟩ := ih (j + 1) (by omega) (by omega) (H.set m true) (h.set hml (.seed hml hmem)) (by
        intro x hx2 k hk hkl
        rw [List.take_succ_eq_append_getElem hlt] at hx2
        rw [has_set _ _ _ (by omega)]
        rcases List.mem_append.1 hx2 with e | e
        · rw [hs x e k hk hkl]; simp
        · have : x = ks[j] := by simpa using e
          have : k = m := by omega
          simp [this])
      refine ⟨H', h1, h2, fun r e => Ev.step (fun k => by rw [impl_Reach.l0, if_pos (by omega), if_pos (by omega), if_pos (by omega), hv]) (ev_now hf (evT (decide_eq_true hx) (evT hx.1 (evT hx3 ?_))))⟩
      rw [w64 (by omega) (by omega), hm, Int.toNat_natCast]
      exact h3 r e
    · obtain ⟨H', h1, h2, h3⟩ := ih (j + 1) (by omega) (by omega) H h (by
        intro x hx2 k hk hkl
        rw [List.take_succ_eq_append_getElem hlt] at hx2
        rcases List.mem_append.1 hx2 with e | e
        · exact hs x e k hk hkl
        · have : x = ks[j] := by simpa using e
          omega)
      refine ⟨H', h1, h2, fun r e => Ev.step (fun k => by rw [impl_Reach.l0, if_pos (by omega), if_pos (by omega), if_pos (by omega), hv]) (ev_now hf (evF (fun e => hx (of_decide_eq_true e)) ?_))⟩
      rw [w64 (by omega) (by omega)]
      exact h3 r e
theorem impl_start_ev {l : List S34} (hok : aok l = true) {S : Nat → Prop} :
    ∀ (d i : Nat), l.length - i = d → i ≤ l.length → ∀ H P, Inv l S H → Pubs l 0 P i → (∀ k, k < i → kd l k = 1 → (nodeOf l k).f1 < 1000 → has H k = true) →
    ∃ H' P', Inv l S H' ∧ Pubs l 0 P' l.length ∧ AtomsHad l H' ∧ (∀ k, has H k = true → has H' k = true) ∧ ∀ r, Ev (fun k => impl_Reach.l2 k H' P' true l) r → Ev (fun k => impl_Reach.l1 k H P l (l.length : Int) (i : Int) l) r := by
  have hn := (aok_parts hok).1
  intro d
  induction d with
  | zero =>
    intro i hd hi H P h hP hat
    have e : i = l.length := by omega
    subst e
    exact ⟨H, P, h, hP, hat, fun _ h => h, fun r e => Ev.step (fun k => by rw [impl_Reach.l1, if_neg (by omega)]) e⟩
  | succ d ih =>
    intro i hd hi H P h hP hat
    have hlt : i < l.length := by omega
    have hl := h.len
    have hPl := hP.len
    have hnode : rd_T34 l (i : Int) = nodeOf l i := rfl
    have ek : (nodeOf l i).f0 = kd l i := rfl
    by_cases h6 : kd l i = 6
    · obtain ⟨h2, hA, _⟩ := part_le hok hlt (by omega)
      obtain ⟨H', P', q1, q2, q3, q4, q5⟩ := ih (i + 1) (by omega) (by omega) H _ h (hP.put hlt h6) (fun k hk h1 h3 => by
        by_cases e : k = i
        · rw [e] at h1; omega
        · exact hat k (by omega) h1 h3)
      refine ⟨H', P', q1, q2, q3, q4, fun r e => Ev.step (fun k => by rw [impl_Reach.l1, if_pos (by omega), if_pos (by omega), if_pos (by omega), hnode, ek, if_pos h6, h2, if_pos (by omega), if_pos (by omega), Option.bind_some, if_neg (by omega), w64 (by omega) (by omega), Int.toNat_natCast]; rfl) (q5 r e)⟩
    · by_cases h1 : kd l i = 1 ∧ (nodeOf l i).f1 < 1000
      · obtain ⟨H', P', q1, q2, q3, q4, q5⟩ := ih (i + 1) (by omega) (by omega) (H.set i true) P (h.set hlt (.atom hlt h1.1 h1.2)) (hP.skip h6) (fun k hk h2 h3 => by
          rw [has_set _ _ _ (by omega)]
          by_cases e : k = i
          · simp [e]
          · rw [hat k (by omega) h2 h3]; simp)
        refine ⟨H', P', q1, q2, q3, fun k hk => q4 k (by rw [has_set _ _ _ (by omega), hk]; simp), fun r e => Ev.step (fun k => by rw [impl_Reach.l1, if_pos (by omega), if_pos (by omega), if_pos (by omega), hnode, ek, if_neg h6, if_pos h1.1, if_pos h1.2, if_pos (by omega), w64 (by omega) (by omega), Int.toNat_natCast]; rfl) (q5 r e)⟩
      · obtain ⟨H', P', q1, q2, q3, q4, q5⟩ := ih (i + 1) (by omega) (by omega) H P h (hP.skip h6) (fun k hk h2 h3 => by
          by_cases e : k = i
          · rw [e] at h2 h3; exact absurd ⟨h2, h3⟩ h1
          · exact hat k (by omega) h2 h3)
        refine ⟨H', P', q1, q2, q3, q4, fun r e => Ev.step (fun k => by
          rw [impl_Reach.l1, if_pos (by omega), if_pos (by omega), if_pos (by omega), hnode, ek, if_neg h6, w64 (by omega) (by omega)]
          by_cases e1 : kd l i = 1
          · rw [if_pos e1, if_neg (fun e2 => h1 ⟨e1, e2⟩)]; rfl
          · rw [if_neg e1]; rfl) (q5 r e)⟩
theorem inv_none (l : List S34) (S : Nat → Prop) : Inv l S (List.replicate l.length false) := by
  refine ⟨by simp, fun i h => ?_⟩
  have := has_lt h
  unfold has at h
  rw [List.getD_eq_getElem?_getD, List.getElem?_eq_getElem this, List.getElem_replicate] at h
  cases h
theorem impl_Reach_f (l : List S34) (hw : l.all wf1 = true) (hl : l.length ≤ 1048576) (ks : List Int) (hks : ks.length ≤ 1048576) :
    ∃ H, (aok l = true → IsReach l (known ks) H) ∧ (aok l = false → H = []) ∧ Ev (fun k => impl_Reach.f k l ks) H := by
  have hA : impl_ArenaOk.f l = some (aok l) := by unfold impl_ArenaOk.f; rw [if_pos hw]
  cases hok : aok l with
  | false => 
    refine ⟨[], fun e => (by cases e), fun _ => rfl, ?_⟩
    rw [hok] at hA
    exact ev_now hA (evF (by simp) (Ev.now _))
  | true =>
    rw [hok] at hA
    have hn := (aok_parts hok).1
    obtain ⟨H1, i1, s1, g1⟩ := impl_seeds_ev hok ks hks ks.length 0 (by omega) (by omega) _ (inv_none l _) (fun x hx => by simp at hx)
    obtain ⟨H2, P, i2, p2, a2, s2, g2⟩ := impl_start_ev hok l.length 0 (by omega) (by omega) H1 _ i1 (Pubs.none l 0) (fun k hk => by omega)
    obtain ⟨H3, r3, g3⟩ := impl_all_ev hok p2 l.length H2 (by omega) i2 a2 (fun k hk hS => s2 k (s1 k hk hS))
    refine ⟨H3, fun _ => r3, fun e => (by cases e), ev_now hA (evT rfl (evT (by omega) (evT (by rw [Int.toNat_natCast]; omega) ?_)))⟩
    rw [Int.toNat_natCast]
    exact g1 _ (g2 _ g3)

/-! the reference's own walk over what can be had -/
theorem spec_dh {H : List Bool} {P : List Int} {a b : Nat} (ha : a < H.length) (hb : b < H.length) (hP : P.length = H.length) (hr : ∀ x : Nat, x < H.length → rd P (x : Int) < (H.length : Int)) (k : Nat) (y0 y1 : Int) : spec_l05Made.j0 (k + 1) H P 7 false y0 y1 (a : Int) (b : Int) = some ((has H a && pubHad H P 0 b) || (has H b && pubHad H P 0 a)) := by
  have a1 := hr a ha
  have b1 := hr b hb
  have e1 : ((a : Int) < (H.length : Int)) = True := eq_true (by omega)
  have e2 : ((b : Int) < (H.length : Int)) = True := eq_true (by omega)
  have e3 : ((a : Int) < (P.length : Int)) = True := eq_true (by omega)
  have e4 : ((b : Int) < (P.length : Int)) = True := eq_true (by omega)
  have e5 : (rd P (a : Int) < (H.length : Int)) = True := eq_true a1
  have e6 : (rd P (b : Int) < (H.length : Int)) = True := eq_true b1
  have e7 : (0 ≤ (a : Int)) = True := eq_true (by omega)
  have e8 : (0 ≤ (b : Int)) = True := eq_true (by omega)
  rw [spec_l05Made.j0]
  simp only [e1, e2, e3, e4, e5, e6, e7, e8, if_true, rdOf_has]
  unfold pubHad
  by_cases c1 : rd P (a : Int) ≥ 0
  · have f1 : (rd P (a : Int) ≥ 0) = True := eq_true c1
    have f2 : (0 ≤ rd P (a : Int)) = True := eq_true (by omega)
    have f3 : decide (rd P (a : Int) ≥ 0) = true := decide_eq_true (by omega)
    simp only [f1, f2, f3, if_true]
    by_cases c2 : rd P (b : Int) ≥ 0
    · have g1 : (rd P (b : Int) ≥ 0) = True := eq_true c2
      have g2 : (0 ≤ rd P (b : Int)) = True := eq_true (by omega)
      have g3 : decide (rd P (b : Int) ≥ 0) = true := decide_eq_true (by omega)
      simp only [g1, g2, g3, if_true]
      cases has H a <;> cases has H b <;> cases rdOf false H (rd P (a : Int)) <;> cases rdOf false H (rd P (b : Int)) <;> rfl
    · have g1 : (rd P (b : Int) ≥ 0) = False := eq_false c2
      have g3 : decide (rd P (b : Int) ≥ 0) = false := decide_eq_false (by omega)
      simp only [g1, g3, if_false]
      cases has H a <;> cases has H b <;> cases rdOf false H (rd P (a : Int)) <;> rfl
  · have f1 : (rd P (a : Int) ≥ 0) = False := eq_false c1
    have f3 : decide (rd P (a : Int) ≥ 0) = false := decide_eq_false (by omega)
    simp only [f1, f3, if_false]
    by_cases c2 : rd P (b : Int) ≥ 0
    · have g1 : (rd P (b : Int) ≥ 0) = True := eq_true c2
      have g2 : (0 ≤ rd P (b : Int)) = True := eq_true (by omega)
      have g3 : decide (rd P (b : Int) ≥ 0) = true := decide_eq_true (by omega)
      simp only [g1, g2, g3, if_true]
      cases has H a <;> cases has H b <;> cases rdOf false H (rd P (b : Int)) <;> rfl
    · have g1 : (rd P (b : Int) ≥ 0) = False := eq_false c2
      have g3 : decide (rd P (b : Int) ≥ 0) = false := decide_eq_false (by omega)
      simp only [g1, g3, if_false]
      cases has H a <;> cases has H b <;> rfl
theorem spec_one {H : List Bool} {P : List Int} {a : Nat} (ha : a < H.length) (k : Nat) (y y0 y1 y3 : Int) : spec_l05Made.j0 (k + 1) H P y true y0 y1 (a : Int) y3 = some (has H a) := by
  rw [spec_l05Made.j0, if_pos rfl, if_pos (by omega), if_pos (by omega), rdOf_has]
theorem spec_two {H : List Bool} {P : List Int} {a b : Nat} (ha : a < H.length) (hb : b < H.length) {y : Int} (hy : y ≠ 7) (k : Nat) (y0 y1 : Int) : spec_l05Made.j0 (k + 1) H P y false y0 y1 (a : Int) (b : Int) = some (has H a && has H b) := by
  rw [spec_l05Made.j0, if_neg (by simp), if_neg hy, if_pos (by omega), if_pos (by omega), rdOf_has]
  by_cases h : has H a = true
  · rw [if_pos h, if_pos (by omega), if_pos (by omega), rdOf_has, h]; simp
  · rw [if_neg h]; simp [h]
theorem spec_made_ev {l : List S34} (hok : aok l = true) {P : List Int} {H : List Bool} (hP : Pubs l (-1) P l.length) (hH : H.length = l.length) {i : Nat} (hi : i < l.length) :
    Ev (fun k => spec_l05Made.f k l H P (i : Int)) (madeB H P 0 (kd l i) (nodeOf l i).f1 (pA l i) (pB l i)) := by
  have hnode : rd_T34 l (i : Int) = nodeOf l i := rfl
  have ek : (nodeOf l i).f0 = kd l i := rfl
  refine evT (by omega) (evT (by omega) ?_)
  rw [hnode]
  by_cases h1 : kd l i = 1
  · refine ev_cast (evT h1 (Ev.now _)) ?_
    unfold madeB
    rw [if_pos h1]
  obtain ⟨h2, hA, hBo⟩ := part_le hok hi h1
  have hPl := hP.len
  have hr : ∀ x : Nat, x < H.length → rd P (x : Int) < (H.length : Int) := fun x hx => by
    have := pubs_range hP (by omega) (a := x) (by omega)
    omega
  refine evF h1 ?_
  unfold madeB
  rw [if_neg h1, h2]
  by_cases h3 : kd l i = 3
  · have e : ((nodeOf l i).f0 == 3) = true := by rw [beq_iff_eq]; exact h3
    rw [if_pos (.inl h3)]
    refine evT h3 (ev_end (fun k => ?_))
    rw [e, spec_one (by omega)]
  · by_cases h6 : kd l i = 6
    · have e : ((nodeOf l i).f0 == 6) = true := by rw [beq_iff_eq]; exact h6
      rw [if_pos (.inr h6)]
      refine evF h3 (ev_end (fun k => ?_))
      rw [e, spec_one (by omega)]
    · have e : ((nodeOf l i).f0 == 6) = false := by rw [beq_eq_false_iff_ne]; exact h6
      obtain ⟨h4, hB⟩ := hBo (by simp [oneKind, h3, h6])
      rw [if_neg (by omega), h4]
      by_cases h7 : kd l i = 7
      · rw [if_pos h7]
        have e7 : (nodeOf l i).f0 = 7 := h7
        refine evF h3 (ev_end (fun k => ?_))
        rw [e, e7, spec_dh (by omega) (by omega) (by omega) hr]
      · rw [if_neg h7]
        refine evF h3 (ev_end (fun k => ?_))
        rw [e, spec_two (y := (nodeOf l i).f0) (by omega) (by omega) h7]
/-- the parts of a node that is had -/
theorem spec_parts_ok {l : List S34} (hok : aok l = true) {S : Nat → Prop} {H : List Bool} (h : Inv l S H) {i : Nat} (hi : i < l.length) (hh : has H i = true) (fl : Bool) :
    ∃ b H', spec_l05Parts.f l H (i : Int) = some (b, H') ∧ Adv l S H fl H' (if b = true then true else fl) ∧ ((if b = true then true else fl) = false → ∀ o, Outs l H i o → has H o = true) := by
  have hnode : rd_T34 l (i : Int) = nodeOf l i := rfl
  have ek : (nodeOf l i).f0 = kd l i := rfl
  have hlen := h.len
  have hlt := fun o (ho : Outs l H i o) => der_lt (fun j hj => ((aok_parts hok).2 j hj).1) (Outs.der h hi hh ho)
  have one : ∀ o, Outs l H i o → (∀ o', Outs l H i o' → o' = o) → Adv l S H fl (H.set o true) (if (!has H o) = true then true else fl) ∧ ((if (!has H o) = true then true else fl) = false → ∀ o, Outs l H i o → has H o = true) := by
    intro o ho hall
    have hm := Adv.mark h fl (hlt o ho) (Outs.der h hi hh ho)
    cases hO : has H o with
    | true =>
      rw [hO] at hm
      simp only [Bool.not_true, Bool.or_false] at hm
      exact ⟨hm, fun _ o' ho' => by rw [hall o' ho']; exact hO⟩
    | false =>
      rw [hO] at hm
      simp only [Bool.not_false, Bool.or_true] at hm
      exact ⟨hm, fun e => by cases e⟩
  unfold spec_l05Parts.f
  rw [if_pos (by omega), if_pos (by omega), hnode, ek]
  by_cases h2 : kd l i = 2
  · obtain ⟨h4, hA, hBo⟩ := part_le hok hi (by omega)
    obtain ⟨h5, hB⟩ := hBo (by simp [oneKind, h2])
    have oA : Outs l H i (pA l i) := .inl ⟨h2, .inl rfl⟩
    have oB : Outs l H i (pB l i) := .inl ⟨h2, .inr rfl⟩
    rw [if_pos h2, h4, h5, if_pos (by omega), if_pos (by omega), rdOf_has]
    by_cases hA' : has H (pA l i) = true
    · rw [if_pos hA', if_pos (by omega), if_pos (by omega), rdOf_has, Int.toNat_natCast, Int.toNat_natCast, set_has hA']
      refine ⟨_, _, rfl, ?_⟩
      have hm := Adv.mark h fl (hlt _ oB) (Outs.der h hi hh oB)
      cases hO : has H (pB l i) with
      | true =>
        rw [hO] at hm
        simp only [Bool.not_true, Bool.or_false] at hm
        refine ⟨hm, fun _ o ho => ?_⟩
        rcases ho with ⟨_, e | e⟩ | ⟨e, _⟩ | ⟨e, _⟩
        · rw [e]; exact hA'
        · rw [e]; exact hO
        · omega
        · omega
      | false =>
        rw [hO] at hm
        simp only [Bool.not_false, Bool.or_true] at hm
        exact ⟨hm, fun e => by cases e⟩
    · rw [if_neg hA', if_pos (by omega), if_pos (by omega), Int.toNat_natCast, Int.toNat_natCast]
      refine ⟨_, _, rfl, ?_⟩
      have hm := Adv.mark h fl (hlt _ oA) (Outs.der h hi hh oA)
      have e1 : (fl || !has H (pA l i)) = true := by simp [hA']
      rw [e1] at hm
      have hm2 := Adv.mark hm.inv true (hlt _ oB) (Outs.der h hi hh oB)
      rw [Bool.true_or] at hm2
      exact ⟨hm.trans hm2, fun e => by cases e⟩
  · rw [if_neg h2]
    by_cases h8 : kd l i = 8
    · obtain ⟨h4, hA, hBo⟩ := part_le hok hi (by omega)
      obtain ⟨h5, hB⟩ := hBo (by simp [oneKind, h8])
      rw [if_pos h8, h5, if_pos (by omega), if_pos (by omega), rdOf_has, Int.toNat_natCast]
      refine ⟨_, _, rfl, one _ (.inr (.inl ⟨h8, rfl⟩)) (fun o ho => ?_)⟩
      rcases ho with ⟨e, _⟩ | ⟨_, e⟩ | ⟨e, _⟩
      · omega
      · exact e
      · omega
    · rw [if_neg h8]
      by_cases h5 : kd l i = 5
      · obtain ⟨h4, hA, hBo⟩ := part_le hok hi (by omega)
        obtain ⟨h6, hB⟩ := hBo (by simp [oneKind, h5])
        rw [if_pos h5, h4, if_pos (by omega), if_pos (by omega), rdOf_has]
        by_cases hA' : has H (pA l i) = true
        · rw [if_pos hA', h6, if_pos (by omega), if_pos (by omega), rdOf_has, Int.toNat_natCast]
          refine ⟨_, _, rfl, one _ (.inr (.inr ⟨h5, hA', rfl⟩)) (fun o ho => ?_)⟩
          rcases ho with ⟨e, _⟩ | ⟨e, _⟩ | ⟨_, _, e⟩
          · omega
          · omega
          · exact e
        · rw [if_neg hA']
          refine ⟨_, _, rfl, Adv.refl h fl, fun _ o ho => ?_⟩
          rcases ho with ⟨e, _⟩ | ⟨e, _⟩ | ⟨_, e, _⟩
          · omega
          · omega
          · exact absurd e hA'
      · rw [if_neg h5]
        refine ⟨_, _, rfl, Adv.refl h fl, fun _ o ho => ?_⟩
        rcases ho with ⟨e, _⟩ | ⟨e, _⟩ | ⟨e, _⟩
        · omega
        · omega
        · omega
/-- the walk up -/
theorem spec_up_ev {l : List S34} (hok : aok l = true) {S : Nat → Prop} {P : List Int} (hP : Pubs l (-1) P l.length) :
    ∀ (d i : Nat), l.length - i = d → i ≤ l.length → ∀ (H : List Bool) (fl : Bool), Inv l S H →
    ∃ H' fl', Adv l S H fl H' fl' ∧ (fl' = false → ∀ k, i ≤ k → k < l.length → Made l H k → has H k = true) ∧ ∀ r, Ev (fun k => spec_l05Reach.l3 k H' P fl' (wrap64 ((l.length : Int) - 1)) l) r →
      Ev (fun k => spec_l05Reach.l2 k H P fl (i : Int) l) r := by
  have hn := (aok_parts hok).1
  intro d
  induction d with
  | zero =>
    intro i hd hi H fl h
    have hl := h.len
    exact ⟨H, fl, Adv.refl h fl, fun _ k h1 h2 => by omega, fun r e => Ev.step (fun k => by rw [spec_l05Reach.l2, if_neg (by omega), hl]) e⟩
  | succ d ih =>
    intro i hd hi H fl h
    have hlt : i < l.length := by omega
    have hl := h.len
    have go : ∀ H1 f1, Adv l S H fl H1 f1 → (f1 = false → Made l H i → has H i = true) → (∀ r, Ev (fun k => spec_l05Reach.l2 k H1 P f1 ((i + 1 : Nat) : Int) l) r → Ev (fun k => spec_l05Reach.l2 k H P fl (i : Int) l) r) →
        ∃ H' fl', Adv l S H fl H' fl' ∧ (fl' = false → ∀ k, i ≤ k → k < l.length → Made l H k → has H k = true) ∧ ∀ r, Ev (fun k => spec_l05Reach.l3 k H' P fl' (wrap64 ((l.length : Int) - 1)) l) r → Ev (fun k => spec_l05Reach.l2 k H P fl (i : Int) l) r := by
      intro H1 f1 a1 s1 g1
      obtain ⟨H2, f2, a2, s2, g2⟩ := ih (i + 1) (by omega) (by omega) H1 f1 a1.inv
      refine ⟨H2, f2, a1.trans a2, fun e k hk1 hk2 => ?_, fun r e => g1 r (g2 r e)⟩
      obtain ⟨e1, q1⟩ := a2.same e
      obtain ⟨_, q0⟩ := a1.same e1
      by_cases ek : k = i
      · rw [ek]; exact s1 e1
      · have := s2 e k (by omega) hk2
        rw [q0] at this
        exact this
    by_cases hh : has H i = true
    · exact go H fl (Adv.refl h fl) (fun _ _ => hh) (fun r e => Ev.step (fun k => by rw [spec_l05Reach.l2, if_pos (by omega), if_pos (by omega), rdOf_has, if_pos hh, w64 (by omega) (by omega)]; rfl) e)
    · have hmi := madeB_iff hok (d := 0) (H := H) hP (by omega) hlt
      have hm := spec_made_ev hok hP hl hlt
      cases hb : madeB H P 0 (kd l i) (nodeOf l i).f1 (pA l i) (pB l i) with
      | true =>
        rw [hb] at hm hmi
        have ha := Adv.mark h fl hlt (Made.der h hlt (hmi.1 rfl))
        have e1 : (fl || !has H i) = true := by simp [hh]
        rw [e1] at ha
        refine go _ true ha (fun e => (by cases e)) (fun r e => Ev.step (fun k => by rw [spec_l05Reach.l2, if_pos (by omega), if_pos (by omega), rdOf_has, if_neg hh, w64 (x := (i : Int) + 1) (by omega) (by omega), Int.toNat_natCast]) (Ev.bind hm (evT rfl e)))
      | false =>
        rw [hb] at hm hmi
        refine go H fl (Adv.refl h fl) (fun _ hM => absurd (hmi.2 hM) (by simp)) (fun r e => Ev.step (fun k => by rw [spec_l05Reach.l2, if_pos (by omega), if_pos (by omega), rdOf_has, if_neg hh, w64 (x := (i : Int) + 1) (by omega) (by omega), Int.toNat_natCast]) (Ev.bind hm (evF Bool.false_ne_true e)))
/-- the walk down -/
theorem spec_down_ev {l : List S34} (hok : aok l = true) {S : Nat → Prop} {P : List Int} :
    ∀ (i : Nat), i ≤ l.length → ∀ (H : List Bool) (fl : Bool), Inv l S H →
    ∃ H' fl', Adv l S H fl H' fl' ∧ (fl' = false → ∀ k, k < i → has H k = true → ∀ o, Outs l H k o → has H o = true) ∧ ∀ r, Ev (fun k => spec_l05Reach.l1 k H' P fl' l) r →
      Ev (fun k => spec_l05Reach.l3 k H P fl ((i : Int) - 1) l) r := by
  have hn := (aok_parts hok).1
  intro i
  induction i with
  | zero =>
    intro hi H fl h
    exact ⟨H, fl, Adv.refl h fl, fun _ k h1 => by omega, fun r e => Ev.step (fun k => by rw [spec_l05Reach.l3, if_neg (by omega)]) e⟩
  | succ i ih =>
    intro hi H fl h
    have hlt : i < l.length := by omega
    have hl := h.len
    have hc : ((i + 1 : Nat) : Int) - 1 = (i : Int) := by omega
    rw [hc]
    have go : ∀ H1 f1, Adv l S H fl H1 f1 → (f1 = false → has H i = true → ∀ o, Outs l H i o → has H o = true) → (∀ r, Ev (fun k => spec_l05Reach.l3 k H1 P f1 ((i : Int) - 1) l) r → Ev (fun k => spec_l05Reach.l3 k H P fl (i : Int) l) r) →
        ∃ H' fl', Adv l S H fl H' fl' ∧ (fl' = false → ∀ k, k < i + 1 → has H k = true → ∀ o, Outs l H k o → has H o = true) ∧ ∀ r, Ev (fun k => spec_l05Reach.l1 k H' P fl' l) r → Ev (fun k => spec_l05Reach.l3 k H P fl (i : Int) l) r := by
      intro H1 f1 a1 s1 g1
      obtain ⟨H2, f2, a2, s2, g2⟩ := ih (by omega) H1 f1 a1.inv
      refine ⟨H2, f2, a1.trans a2, fun e k hk => ?_, fun r e => g1 r (g2 r e)⟩
      obtain ⟨e1, q1⟩ := a2.same e
      obtain ⟨_, q0⟩ := a1.same e1
      by_cases ek : k = i
      · rw [ek]; exact s1 e1
      · have := s2 e k (by omega)
        rw [q0] at this
        exact this
    by_cases hh : has H i = true
    · obtain ⟨b, H1, hp, ha, hs⟩ := spec_parts_ok hok h hlt hh fl
      refine go H1 _ ha (fun e _ => hs e) (fun r e => Ev.step (fun k => by rw [spec_l05Reach.l3, if_pos (by omega), if_pos (by omega), if_pos (by omega), rdOf_has, if_pos hh, w64 (x := (i : Int) - 1) (by omega) (by omega)]) (ev_now hp ?_))
      cases b with
      | true => exact evT rfl e
      | false => exact evF Bool.false_ne_true e
    · exact go H fl (Adv.refl h fl) (fun _ e => absurd e hh) (fun r e => Ev.step (fun k => by rw [spec_l05Reach.l3, if_pos (by omega), if_pos (by omega), if_pos (by omega), rdOf_has, if_neg hh, w64 (x := (i : Int) - 1) (by omega) (by omega)]) e)
theorem spec_round_ev {l : List S34} (hok : aok l = true) {S : Nat → Prop} {P : List Int} (hP : Pubs l (-1) P l.length) (H : List Bool) (h : Inv l S H) :
    ∃ H' fl', Adv l S H false H' fl' ∧ (fl' = false → ∀ k, k < l.length → Stable l H k) ∧ ∀ r, Ev (fun k => spec_l05Reach.l1 k H' P fl' l) r → Ev (fun k => spec_l05Reach.l1 k H P true l) r := by
  have hn := (aok_parts hok).1
  obtain ⟨H1, f1, a1, s1, g1⟩ := spec_up_ev hok hP l.length 0 (by omega) (by omega) H false h
  obtain ⟨H2, f2, a2, s2, g2⟩ := spec_down_ev hok (P := P) l.length (by omega) H1 f1 a1.inv
  refine ⟨H2, f2, a1.trans a2, fun e k hk => ?_, fun r e => Ev.step (fun k => by rw [spec_l05Reach.l1, if_pos rfl]; rfl) (g1 r (by rw [w64 (by omega) (by omega)]; exact g2 r e))⟩
  obtain ⟨e1, q1⟩ := a2.same e
  obtain ⟨_, q0⟩ := a1.same e1
  have := s2 e k hk
  rw [q0] at this
  exact ⟨s1 e1 k (by omega) hk, this⟩
theorem spec_all_ev {l : List S34} (hok : aok l = true) {S : Nat → Prop} {P : List Int} (hP : Pubs l (-1) P l.length) :
    ∀ (n : Nat) (H : List Bool), l.length - cnt H ≤ n → Inv l S H → (∀ k, k < l.length → S k → has H k = true) → ∃ H', IsReach l S H' ∧ Ev (fun k => spec_l05Reach.l1 k H P true l) H' := by
  intro n
  induction n with
  | zero =>
    intro H hn h hs
    obtain ⟨H1, f1, a1, s1, g1⟩ := spec_round_ev hok hP H h
    have hc1 := cnt_le H1
    have hl1 := a1.inv.len
    cases f1 with
    | true =>
      rcases a1.more rfl with e | e
      · cases e
      · omega
    | false =>
      obtain ⟨_, e⟩ := a1.same rfl
      refine ⟨H, isReach_of h hs (fun k hk => s1 rfl k hk), g1 H ?_⟩
      rw [e]
      exact ev_end (fun k => by rw [spec_l05Reach.l1, if_neg (by simp)])
  | succ n ih =>
    intro H hn h hs
    obtain ⟨H1, f1, a1, s1, g1⟩ := spec_round_ev hok hP H h
    cases f1 with
    | true =>
      rcases a1.more rfl with e | e
      · cases e
      · obtain ⟨H', h1, h2⟩ := ih H1 (by omega) a1.inv (fun k h1 h2 => a1.sub _ (hs k h1 h2))
        exact ⟨H', h1, g1 H' h2⟩
    | false =>
      obtain ⟨_, e⟩ := a1.same rfl
      refine ⟨H, isReach_of h hs (fun k hk => s1 rfl k hk), g1 H ?_⟩
      rw [e]
      exact ev_end (fun k => by rw [spec_l05Reach.l1, if_neg (by simp)])
theorem spec_pubs1_ev {l : List S34} (hok : aok l = true) : ∀ (d i : Nat), l.length - i = d → i ≤ l.length → ∀ P, Pubs l (-1) P i → ∃ P', Pubs l (-1) P' l.length ∧ Ev (fun k => spec_l05Pubs.l1 k P (i : Int) l) P' := by
  have hn := (aok_parts hok).1
  intro d
  induction d with
  | zero =>
    intro i hd hi P hP
    have e : i = l.length := by omega
    subst e
    exact ⟨P, hP, ev_end (fun k => by rw [spec_l05Pubs.l1, if_neg (by omega)])⟩
  | succ d ih =>
    intro i hd hi P hP
    have hlt : i < l.length := by omega
    have hPl := hP.len
    have hnode : rd_T34 l (i : Int) = nodeOf l i := rfl
    have ek : (nodeOf l i).f0 = kd l i := rfl
    by_cases h6 : kd l i = 6
    · obtain ⟨h2, hA, _⟩ := part_le hok hlt (by omega)
      obtain ⟨P', q1, q2⟩ := ih (i + 1) (by omega) (by omega) _ (hP.put hlt h6)
      exact ⟨P', q1, Ev.step (fun k => by rw [spec_l05Pubs.l1, if_pos (by omega), if_pos (by omega), hnode, ek, if_pos h6, h2, if_pos (by omega), if_pos (by omega), w64 (by omega) (by omega), Int.toNat_natCast]; rfl) q2⟩
    · obtain ⟨P', q1, q2⟩ := ih (i + 1) (by omega) (by omega) P (hP.skip h6)
      exact ⟨P', q1, Ev.step (fun k => by rw [spec_l05Pubs.l1, if_pos (by omega), if_pos (by omega), hnode, ek, if_neg h6, w64 (by omega) (by omega)]; rfl) q2⟩
theorem spec_pubs_ev {l : List S34} (hok : aok l = true) : ∀ (d i : Nat), l.length - i = d → i ≤ l.length → ∃ P', Pubs l (-1) P' l.length ∧ Ev (fun k => spec_l05Pubs.l0 k (List.replicate i (-1)) (i : Int) l) P' := by
  have hn := (aok_parts hok).1
  intro d
  induction d with
  | zero =>
    intro i hd hi
    have e : i = l.length := by omega
    subst e
    obtain ⟨P', q1, q2⟩ := spec_pubs1_ev hok l.length 0 (by omega) (by omega) _ (Pubs.none l (-1))
    exact ⟨P', q1, Ev.step (fun k => by rw [spec_l05Pubs.l0, if_neg (by omega)]; rfl) q2⟩
  | succ d ih =>
    intro i hd hi
    obtain ⟨P', q1, q2⟩ := ih (i + 1) (by omega) (by omega)
    refine ⟨P', q1, Ev.step (fun k => by rw [spec_l05Pubs.l0, if_pos (by omega), if_pos (by rw [List.length_replicate]; omega), w64 (by omega) (by omega), ← List.replicate_succ']; rfl) q2⟩
theorem spec_seeds_ev {l : List S34} (hok : aok l = true) (ks : List Int) (hks : ks.length ≤ 1048576) :
    ∀ (d j : Nat), ks.length - j = d → j ≤ ks.length → ∀ H, Inv l (known ks) H → (∀ x ∈ ks.take j, ∀ k : Nat, x = (k : Int) → k < l.length → has H k = true) →
    ∃ H', Inv l (known ks) H' ∧ (∀ k, k < l.length → known ks k → has H' k = true) ∧ ∀ P r, Ev (fun k => spec_l05Pubs.f k l) P → Ev (fun k => spec_l05Reach.l1 k H' P true l) r → Ev (fun k => spec_l05Reach.l0 k ks H (j : Int) l) r := by
  have hn := (aok_parts hok).1
  intro d
  induction d with
  | zero =>
    intro j hd hj H h hs
    refine ⟨H, h, fun k hk hS => hs _ (by rw [List.take_of_length_le (by omega)]; exact hS) k rfl hk, fun P r e1 e2 => Ev.step (fun k => by rw [spec_l05Reach.l0, if_neg (by omega)]) (Ev.bind e1 e2)⟩
  | succ d ih =>
    intro j hd hj H h hs
    have hlt : j < ks.length := by omega
    have hl := h.len
    have hv := rd_nat hlt
    have hf : spec_l01In.f (ks[j]) 0 ((H.length : Int) - 1) = some (decide (0 ≤ ks[j] ∧ ks[j] ≤ (l.length : Int) - 1)) := by
      unfold spec_l01In.f
      rw [hl]
      by_cases h0 : ks[j] ≥ 0
      · rw [if_pos h0]
        congr 1
        rw [decide_eq_decide]
        omega
      · rw [if_neg h0]
        congr 1
        symm
        rw [decide_eq_false_iff_not]
        omega
    by_cases hx : 0 ≤ ks[j] ∧ ks[j] ≤ (l.length : Int) - 1
    · obtain ⟨m, hm⟩ := Int.eq_ofNat_of_zero_le hx.1
      have hmem : known ks m := by unfold known; rw [← hm]; exact List.getElem_mem hlt
      have hml : m < l.length := by omega
      have hx3 : ks[j] < (H.length : Int) := by omega
      obtain ⟨H', h1, h2, h3⟩ := ih (j + 1) (by omega) (by omega) (H.set m true) (h.set hml (.seed hml hmem)) (by
        intro x hx2 k hk hkl
        rw [List.take_succ_eq_append_getElem hlt] at hx2
        rw [has_set _ _ _ (by omega)]
        rcases List.mem_append.1 hx2 with e | e
        · rw [hs x e k hk hkl]; simp
        · have : x = ks[j] := by simpa using e
          have : k = m := by omega
          simp [this])
      refine ⟨H', h1, h2, fun P r e1 e2 => Ev.step (fun k => by rw [spec_l05Reach.l0, if_pos (by omega), if_pos (by omega), hv, w64 (x := (H.length : Int) - 1) (by omega) (by omega)]) (ev_now hf (evT (decide_eq_true hx) (evT hx.1 (evT hx3 ?_))))⟩
      rw [w64 (by omega) (by omega), hm, Int.toNat_natCast]
      exact h3 P r e1 e2
    · obtain ⟨H', h1, h2, h3⟩ := ih (j + 1) (by omega) (by omega) H h (by
        intro x hx2 k hk hkl
        rw [List.take_succ_eq_append_getElem hlt] at hx2
        rcases List.mem_append.1 hx2 with e | e
        · exact hs x e k hk hkl
        · have : x = ks[j] := by simpa using e
          omega)
      refine ⟨H', h1, h2, fun P r e1 e2 => Ev.step (fun k => by rw [spec_l05Reach.l0, if_pos (by omega), if_pos (by omega), hv, w64 (x := (H.length : Int) - 1) (by omega) (by omega)]) (ev_now hf (evF (fun e => hx (of_decide_eq_true e)) ?_))⟩
      rw [w64 (by omega) (by omega)]
      exact h3 P r e1 e2
theorem spec_Reach_f (l : List S34) (hl : l.length ≤ 1048576) (ks : List Int) (hks : ks.length ≤ 1048576) :
    ∃ H, (aok l = true → IsReach l (known ks) H) ∧ (aok l = false → H = []) ∧ Ev (fun k => spec_Reach.f k l ks) H := by
  have hA := spec_ArenaOk_f l hl
  cases hok : aok l with
  | false => 
    refine ⟨[], fun e => (by cases e), fun _ => rfl, ?_⟩
    rw [hok] at hA
    exact Ev.bind hA (evF Bool.false_ne_true (Ev.now _))
  | true =>
    rw [hok] at hA
    have hn := (aok_parts hok).1
    obtain ⟨H1, i1, s1, g1⟩ := spec_seeds_ev hok ks hks ks.length 0 (by omega) (by omega) _ (inv_none l _) (fun x hx => by simp at hx)
    obtain ⟨P, p1, p2⟩ := spec_pubs_ev hok l.length 0 (by omega) (by omega)
    obtain ⟨H3, r3, g3⟩ := spec_all_ev hok p1 l.length H1 (by omega) i1 s1
    refine ⟨H3, fun _ => r3, fun e => (by cases e), Ev.bind hA (evT rfl (Ev.bind ?_ (Ev.now _)))⟩
    refine evT (by omega) (evT (by rw [Int.toNat_natCast]; omega) ?_)
    rw [Int.toNat_natCast]
    exact g1 P _ p2 g3

/-! draws: what they come to lies in its bounds -/
theorem New_ev (l : List Int) (hl : l.length ≤ 140737488351232) : ∀ (d i : Nat) (x : Int), 4000 - i = d → i ≤ l.length → ∃ h, Ev (fun k => spec_l01New.l0 k l x (i : Int)) (l, 0, h) := by
  intro d
  induction d with
  | zero =>
    intro i x hd hi
    by_cases hlt : i < l.length
    · exact ⟨x, ev_end (fun k => by rw [spec_l01New.l0, if_pos (by omega), if_neg (by omega)])⟩
    · exact ⟨x, ev_end (fun k => by rw [spec_l01New.l0, if_neg (by omega)])⟩
  | succ d ih =>
    intro i x hd hi
    by_cases hlt : i < l.length
    · obtain ⟨h, hh⟩ := ih (i + 1) (Go.bits .and .i64 (wrap64 ((wrap64 ((wrap64 (x * 131)) + (wrap64 (rd l i)))) + 7)) 1073741823) (by omega) (by omega)
      exact ⟨h, Ev.step (fun k => by rw [spec_l01New.l0, if_pos (by omega), if_pos (by omega), if_pos (by omega), w64 (x := (i : Int) + 1) (by omega) (by omega)]; rfl) hh⟩
    · exact ⟨x, ev_end (fun k => by rw [spec_l01New.l0, if_neg (by omega)])⟩
theorem New_f (l : List Int) (hl : l.length ≤ 140737488351232) : ∃ h, Ev (fun k => spec_l01New.f k l) (l, 0, h) := New_ev l hl 4000 0 _ rfl (by omega)
theorem cur_zero {l : List Int} (hl : l.length ≤ 140737488351232) : Cur l 0 := ⟨by omega, by omega, hl⟩
theorem Byte_f {l : List Int} {i : Int} (h : Int) (c : Cur l i) : ∃ r i' h', spec_l01Byte.f l i h = some (r, i', h') ∧ Cur l i' ∧ 0 ≤ r ∧ r ≤ 255 := by
  obtain ⟨c0, c1, c2⟩ := c
  unfold spec_l01Byte.f
  by_cases hi : i < (l.length : Int)
  · rw [if_pos hi, if_pos c0, w64 (x := i + 1) (by omega) (by omega)]
    exact ⟨_, _, _, rfl, ⟨by omega, by omega, c2⟩, (and255 _).1, (and255 _).2⟩
  · rw [if_neg hi]
    exact ⟨_, _, _, rfl, ⟨c0, c1, c2⟩, (and255 _).1, (and255 _).2⟩
theorem Below_f {l : List Int} {i : Int} (h n : Int) (hn : n ≤ 4294967296) (c : Cur l i) : ∃ r i' h', spec_l01Below.f l i h n = some (r, i', h') ∧ Cur l i' ∧ (0 < n → 0 ≤ r ∧ r < n) ∧ (n ≤ 0 → r = 0) := by
  unfold spec_l01Below.f
  by_cases h0 : n ≤ 0
  · rw [if_pos h0]
    exact ⟨_, _, _, rfl, c, fun h => by omega, fun _ => rfl⟩
  · rw [if_neg h0]
    by_cases h1 : n ≤ 256
    · rw [if_pos h1]
      obtain ⟨r, i', h', e, c', r0, r1⟩ := Byte_f h c
      rw [e]
      simp only [Option.bind_some]
      rw [if_neg (by omega)]
      exact ⟨_, _, _, rfl, c', fun _ => by rw [Int.tmod_eq_emod_of_nonneg r0]; exact ⟨Int.emod_nonneg _ (by omega), Int.emod_lt_of_pos _ (by omega)⟩, fun h => by omega⟩
    · rw [if_neg h1]
      obtain ⟨ra, ia, ha, ea, ca, a0, a1⟩ := Byte_f h c
      rw [ea]
      simp only [Option.bind_some]
      obtain ⟨rb, ib, hb, eb, cb, b0, b1⟩ := Byte_f ha ca
      rw [eb]
      simp only [Option.bind_some]
      obtain ⟨rc, ic, hc, ec, cc, c0, c1⟩ := Byte_f hb cb
      rw [ec]
      simp only [Option.bind_some]
      obtain ⟨rd, id, hd, ed, cd, d0, d1⟩ := Byte_f hc cc
      rw [ed]
      simp only [Option.bind_some]
      rw [if_neg (by omega)]
      refine ⟨_, _, _, rfl, cd, fun _ => ?_, fun h => by omega⟩
      have e1 : wrap64 (ra * 16777216) = ra * 16777216 := w64 (by omega) (by omega)
      have e2 : wrap64 (rb * 65536) = rb * 65536 := w64 (by omega) (by omega)
      have e3 : wrap64 (rc * 256) = rc * 256 := w64 (by omega) (by omega)
      have e4 : wrap64 (ra * 16777216 + rb * 65536) = ra * 16777216 + rb * 65536 := w64 (by omega) (by omega)
      have e5 : wrap64 (ra * 16777216 + rb * 65536 + rc * 256) = ra * 16777216 + rb * 65536 + rc * 256 := w64 (by omega) (by omega)
      have e6 : wrap64 (ra * 16777216 + rb * 65536 + rc * 256 + rd) = ra * 16777216 + rb * 65536 + rc * 256 + rd := w64 (by omega) (by omega)
      rw [e1, e2, e3, e4, e5, e6, Int.tmod_eq_emod_of_nonneg (by omega)]
      exact ⟨Int.emod_nonneg _ (by omega), Int.emod_lt_of_pos _ (by omega)⟩

theorem Places_ev (l : List Int) : ∀ (d n : Nat) (acc : List Int) (i h : Int), 12 - n = d → n ≤ 12 → acc.length = n → (∀ x ∈ acc, 0 ≤ x ∧ x < 10000) → Cur l i →
    ∃ r, Ev (fun k => spec_DrawPlaces.l0 k acc (n : Int) l i h) r ∧ r.length = 12 ∧ ∀ x ∈ r, 0 ≤ x ∧ x < 10000 := by
  intro d
  induction d with
  | zero =>
    intro n acc i h hd hn ha hx c
    exact ⟨acc, ev_end (fun k => by rw [spec_DrawPlaces.l0, if_neg (by omega)]), by omega, hx⟩
  | succ d ih =>
    intro n acc i h hd hn ha hx c
    obtain ⟨r, i', h', e, c', hr, _⟩ := Below_f h 10000 (by omega) c
    have hr := hr (by omega)
    obtain ⟨q, hq, q1, q2⟩ := ih (n + 1) (acc ++ [r]) i' h' (by omega) (by omega) (by simp; omega) (fun x hm => by
      rcases List.mem_append.1 hm with hm | hm
      · exact hx x hm
      · rw [List.mem_singleton.1 hm]; exact hr) c'
    refine ⟨q, ?_, q1, q2⟩
    refine Ev.step (fun k => by rw [spec_DrawPlaces.l0, if_pos (by omega), e, Option.bind_some, if_pos (by omega), w64 (x := (n : Int) + 1) (by omega) (by omega)]) ?_
    exact hq
theorem Places_f (l : List Int) (hl : l.length ≤ 140737488351232) : ∃ r, Ev (fun k => spec_DrawPlaces.f k l) r ∧ r.length = 12 ∧ ∀ x ∈ r, 0 ≤ x ∧ x < 10000 := by
  obtain ⟨h, hh⟩ := New_f l hl
  obtain ⟨r, i', h', e, c', _⟩ := Byte_f h (cur_zero hl)
  obtain ⟨q, hq, q1⟩ := Places_ev l 12 0 [] i' h' (by omega) (by omega) rfl (by simp) c'
  exact ⟨q, Ev.bind hh (ev_now e hq), q1⟩

/-! a drawn arena is right, and small -/
def smallN (x : S34) : Prop := (-1 ≤ x.f0 ∧ x.f0 ≤ 1000000) ∧ (-1 ≤ x.f1 ∧ x.f1 ≤ 1000000) ∧ (-1 ≤ x.f2 ∧ x.f2 ≤ 1000000) ∧ (-1 ≤ x.f3 ∧ x.f3 ≤ 1000000)
theorem small_int {n : Int} (h : -1 ≤ n ∧ n ≤ 1000000) : (Lit.int .i64 n).wf = true := by
  simp [Lit.wf, IntKind.min, IntKind.max, IntKind.signed, IntKind.bits]
  omega
theorem small_wf {x : S34} (h : smallN x) : wf1 x = true := by
  unfold wf1
  rw [small_int h.1, small_int h.2.1, small_int h.2.2.1, small_int h.2.2.2]
  rfl
theorem pick_in {l : List Int} {i : Int} (h : Int) (c : Cur l i) (xs : List Int) (h0 : 0 < xs.length) (h1 : xs.length ≤ 1000) : ∃ r i' h', spec_l01PickInt.f l i h xs = some (r, i', h') ∧ Cur l i' ∧ r ∈ xs := by
  obtain ⟨r, i', h', e, c', r0, _⟩ := Below_f h (xs.length : Int) (by omega) c
  have hr := r0 (by omega)
  unfold spec_l01PickInt.f
  rw [e]
  simp only [Option.bind_some]
  rw [if_pos hr.1, if_pos hr.2]
  refine ⟨_, _, _, rfl, c', ?_⟩
  obtain ⟨n, hn⟩ := Int.eq_ofNat_of_zero_le hr.1
  rw [hn, rd_nat (by omega)]
  exact List.getElem_mem _
theorem nodeOf_app {l : List S34} {x : S34} {j : Nat} (h : j < l.length) : nodeOf (l ++ [x]) j = nodeOf l j := by
  rw [nodeOf_get (by simp; omega), nodeOf_get h, List.getElem_append_left h]
theorem nodeOf_last (l : List S34) (x : S34) : nodeOf (l ++ [x]) l.length = x := by
  rw [nodeOf_get (by simp)]
  simp
theorem atV_none {l : List S34} {x : S34} (h : atV l x = -1) : ∀ y ∈ l, sameN y x = false := by
  unfold atV at h
  cases hf : l.findIdx? (fun y => sameN y x) with
  | none =>
    intro y hy
    have := List.findIdx?_eq_none_iff.1 hf y hy
    simpa using this
  | some m =>
    rw [hf] at h
    exfalso
    have h2 : (m : Int) = -1 := h
    omega
theorem aok_app {l : List S34} {x : S34} (h : aok l = true) (hl : l.length < 3000) (hb : nodeB x.f0 x.f1 x.f2 x.f3 (l.length : Int) = true) (ha : atV l x = -1) : aok (l ++ [x]) = true := by
  have hp := (aok_parts h).2
  refine aok_true (by simp; omega) (fun j hj => ?_)
  rcases Nat.lt_or_ge j l.length with hlt | hge
  · have hj' := hp j hlt
    refine ⟨?_, ?_⟩
    · unfold rightAt
      rw [nodeOf_app hlt]
      exact hj'.1
    · unfold dupAt
      rw [nodeOf_app hlt, List.take_append_of_le_length (by omega)]
      exact hj'.2
  · have e : j = l.length := by simp at hj; omega
    subst e
    refine ⟨?_, ?_⟩
    · unfold rightAt
      rw [nodeOf_last]
      exact hb
    · unfold dupAt
      rw [nodeOf_last, List.take_left, List.any_eq_false]
      intro y hy
      rw [atV_none ha y hy]
      simp
theorem aok_put {l : List S34} (x : S34) (h : aok l = true) : aok (putN l x).1 = true := by
  rcases putN_cases l x with ⟨e, _⟩ | ⟨hb, _, ⟨e, _⟩ | ⟨ha, hl, e, _⟩⟩
  · rw [e]; exact h
  · rw [e]; exact h
  · rw [e]; exact aok_app h hl hb ha
theorem put_length (l : List S34) (x : S34) : l.length ≤ (putN l x).1.length ∧ (putN l x).1.length ≤ l.length + 1 := by
  rcases putN_cases l x with ⟨e, _⟩ | ⟨hb, _, ⟨e, _⟩ | ⟨ha, hl, e, _⟩⟩
  · rw [e]; omega
  · rw [e]; omega
  · rw [e]; simp
theorem put_first {p : Int} (h : 0 ≤ p ∧ p ≤ 999999) : (putN ([] : List S34) ⟨1, p, 0, 0⟩).1 = [⟨1, p, 0, 0⟩] := by
  unfold putN
  have h1 : nodeB 1 p 0 0 (([] : List S34).length : Int) = true := by
    unfold nodeB
    rw [if_pos rfl]
    simp [h.1, h.2]
  rw [if_pos h1]
  rfl
theorem nums_in {p : Int} (h : p ∈ ([0, 1, 5, 1000, 5000, 10000, 10001] : List Int)) : 0 ≤ p ∧ p ≤ 999999 := by
  simp at h
  omega
theorem once_f {l : List Int} {i : Int} (h : Int) (c : Cur l i) (n : Int) (hn : n ≤ 4294967296) : ∃ r i' h', spec_l01Once.f l i h n = some (r, i', h') ∧ Cur l i' := by
  obtain ⟨r, i', h', e, c', _, _⟩ := Below_f h n hn c
  unfold spec_l01Once.f
  rw [e]
  exact ⟨_, _, _, rfl, c'⟩
theorem body_f {l : List Int} {i : Int} (h : Int) (c : Cur l i) (ns : List S34) (ha : aok ns = true) (hl : ns.length ≤ 2000) : ∃ r i' h', arenaBody l i h ns = some (r, i', h') ∧ Cur l i' ∧ aok r = true ∧ ns.length ≤ r.length ∧ r.length ≤ ns.length + 1 ∧ 1 ≤ r.length := by
  have atom : ∀ (i h : Int), Cur l i → ∃ r i' h', ((spec_l01PickInt.f l i h ([0, 1, 5, 1000, 5000, 10000, 10001] : List Int)).bind fun p => some ((putN ns ⟨1, p.1, 0, 0⟩).1, p.2.1, p.2.2)) = some (r, i', h') ∧ Cur l i' ∧ aok r = true ∧ ns.length ≤ r.length ∧ r.length ≤ ns.length + 1 ∧ 1 ≤ r.length := by
    intro i h c
    obtain ⟨p, i1, h1, e, c1, hp⟩ := pick_in h c [0, 1, 5, 1000, 5000, 10000, 10001] (by decide) (by decide)
    rw [e, Option.bind_some]
    refine ⟨_, _, _, rfl, c1, aok_put _ ha, (put_length _ _).1, (put_length _ _).2, ?_⟩
    by_cases hz : ns = []
    · subst hz
      show 1 ≤ (putN [] (⟨1, p, 0, 0⟩ : S34)).1.length
      rw [put_first (nums_in hp)]
      simp
    · have h1 := (put_length ns (⟨1, p, 0, 0⟩ : S34)).1
      have h2 : 0 < ns.length := List.length_pos_iff.2 hz
      simp only
      omega
  unfold arenaBody
  by_cases h2 : ns.length < 2
  · rw [if_pos h2, Option.bind_some, if_pos rfl]
    exact atom i h c
  · rw [if_neg h2]
    obtain ⟨r, i1, h1, e, c1⟩ := once_f h c 3 (by omega)
    rw [e, Option.bind_some]
    by_cases hr : r = true
    · rw [if_pos hr]
      exact atom i1 h1 c1
    · rw [if_neg hr]
      obtain ⟨q, i2, h2', e2, c2, b2, _⟩ := Below_f h1 8 (by omega) c1
      have hq := b2 (by omega)
      rw [e2, Option.bind_some, if_pos ⟨hq.1, by omega⟩]
      obtain ⟨x, i3, h3, e3, c3, _, _⟩ := Below_f h2' (ns.length : Int) (by omega) c2
      rw [e3, Option.bind_some]
      obtain ⟨y, i4, h4, e4, c4, _, _⟩ := Below_f h3 (ns.length : Int) (by omega) c3
      rw [e4, Option.bind_some]
      exact ⟨_, _, _, rfl, c4, aok_put _ ha, (put_length _ _).1, (put_length _ _).2, by have := (put_length ns (⟨2 + q, 0, x, if 2 + q = 3 ∨ 2 + q = 6 then 0 else y⟩ : S34)).1; simp only; omega⟩
theorem loop_f {l : List Int} : ∀ (d j : Nat) (ns : List S34) (i h : Int), j + d = 13 → j ≤ 12 → Cur l i → aok ns = true → ns.length ≤ j → (0 < j → 1 ≤ ns.length) → ∃ r i' h', arenaLoop d l i h (j : Int) ns = some (r, i', h') ∧ Cur l i' ∧ aok r = true ∧ 1 ≤ r.length ∧ r.length ≤ 12 := by
  intro d
  induction d with
  | zero => intro j ns i h hd hj; omega
  | succ d ih =>
    intro j ns i h hd hj c ha hn h1
    rw [arenaLoop]
    obtain ⟨b, i1, h1', e, c1, b1, _⟩ := Below_f h 10 (by omega) c
    have hb := b1 (by omega)
    rw [e, Option.bind_some, if_pos ⟨hb.1, by omega⟩]
    by_cases hlt : (j : Int) < 3 + b
    · rw [if_pos hlt]
      obtain ⟨r, i2, h2, e2, c2, a2, l1, l2, l3⟩ := body_f h1' c1 ns ha (by omega)
      rw [e2, Option.bind_some]
      obtain ⟨q, i3, h3, e3, c3, a3, m1, m2⟩ := ih (j + 1) r i2 h2 (by omega) (by omega) c2 a2 (by omega) (fun _ => l3)
      refine ⟨q, i3, h3, ?_, c3, a3, m1, m2⟩
      rw [← e3]
      rfl
    · rw [if_neg hlt]
      exact ⟨_, _, _, rfl, c1, ha, h1 (by omega), by omega⟩
theorem Arena_f {l : List Int} {i : Int} (h : Int) (c : Cur l i) : ∃ r i' h', spec_l03Arena.f l i h = some (r, i', h') ∧ Cur l i' ∧ aok r = true ∧ 1 ≤ r.length ∧ r.length ≤ 12 :=
  loop_f 13 0 [] i h (by omega) (by omega) c (by rfl) (by simp) (fun h => by omega)
theorem right_small {x : S34} {k : Int} (h : nodeB x.f0 x.f1 x.f2 x.f3 k = true) (hk : k ≤ 3000) : smallN x := by
  unfold nodeB at h
  unfold smallN
  by_cases h1 : x.f0 = 1
  · rw [if_pos h1] at h
    simp only [Bool.and_eq_true, decide_eq_true_eq] at h
    omega
  · rw [if_neg h1] at h
    by_cases h3 : x.f0 = 3 ∨ x.f0 = 6
    · rw [if_pos h3] at h
      simp only [Bool.and_eq_true, decide_eq_true_eq] at h
      omega
    · rw [if_neg h3] at h
      simp only [Bool.and_eq_true, decide_eq_true_eq] at h
      omega
theorem aok_small {l : List S34} (h : aok l = true) : ∀ x ∈ l, smallN x := by
  intro x hx
  obtain ⟨j, hj, rfl⟩ := List.mem_iff_getElem.1 hx
  obtain ⟨h1, h2⟩ := aok_parts h
  have := (h2 j hj).1
  unfold rightAt at this
  rw [nodeOf_get hj] at this
  exact right_small this (by omega)
theorem small_all {l : List S34} (h : ∀ x ∈ l, smallN x) : l.all wf1 = true := List.all_eq_true.2 (fun x hx => small_wf (h x hx))

/-! a drawn arena, right or not -/
theorem copyD_f {l : List S34} (h : l.length ≤ 1048576) : spec_l03Copy.f l = some l := by
  unfold spec_l03Copy.f
  simp only [Option.bind_some, List.length_nil, List.nil_append]
  rw [if_pos (by omega)]
theorem Any_f {l : List Int} {i : Int} (h : Int) (c : Cur l i) : ∃ r i' h', spec_l03Any.f l i h = some (r, i', h') ∧ Cur l i' ∧ 1 ≤ r.length ∧ r.length ≤ 13 ∧ ∀ x ∈ r, smallN x := by
  obtain ⟨k, i1, h1, e1, c1, b1, _⟩ := Below_f h 12 (by omega) c
  obtain ⟨y, i2, h2, e2, c2, b2, _⟩ := Below_f h1 60 (by omega) c1
  obtain ⟨ns, i3, h3, e3, c3, ha, n1, n2⟩ := Arena_f h2 c2
  have hy := b2 (by omega)
  have hs := aok_small ha
  unfold spec_l03Any.f
  rw [e1, Option.bind_some, e2, Option.bind_some, e3, Option.bind_some, copyD_f (show ns.length ≤ 1048576 by omega), Option.bind_some]
  simp only [Option.bind_some]
  have hn0 : ¬ (ns.length : Int) = 0 := by omega
  rw [if_neg hn0]
  have t0 : 0 ≤ Int.tmod y (ns.length : Int) := by rw [Int.tmod_eq_emod_of_nonneg hy.1]; exact Int.emod_nonneg _ (by omega)
  have t1 : Int.tmod y (ns.length : Int) < (ns.length : Int) := by rw [Int.tmod_eq_emod_of_nonneg hy.1]; exact Int.emod_lt_of_pos _ (by omega)
  have hat : smallN (rd_T34 ns (Int.tmod y (ns.length : Int))) := by
    obtain ⟨m, hm⟩ := Int.eq_ofNat_of_zero_le t0
    rw [hm, rdI (by omega)]
    exact hs _ (List.getElem_mem _)
  have hset : ∀ x : S34, smallN x → ∀ z ∈ ns.set (Int.tmod y (ns.length : Int)).toNat x, smallN z := by
    intro x hx z hz
    rcases List.mem_or_eq_of_mem_set hz with hz | hz
    · exact hs z hz
    · rw [hz]; exact hx
  by_cases k0 : k = 0
  · rw [if_pos k0, if_pos t0, if_pos t1]
    refine ⟨_, _, _, rfl, c3, by simp; omega, by simp; omega, hset _ ?_⟩
    have m0 : 0 ≤ Int.tmod y 11 ∧ Int.tmod y 11 < 11 := by rw [Int.tmod_eq_emod_of_nonneg hy.1]; omega
    exact ⟨by simp only; omega, hat.2.1, hat.2.2.1, hat.2.2.2⟩
  · rw [if_neg k0]
    by_cases k1 : k = 1
    · rw [if_pos k1, if_pos t0, if_pos t1]
      refine ⟨_, _, _, rfl, c3, by simp; omega, by simp; omega, hset _ ?_⟩
      have m0 : 0 ≤ Int.tmod y 9 ∧ Int.tmod y 9 < 9 := by rw [Int.tmod_eq_emod_of_nonneg hy.1]; omega
      exact ⟨hat.1, hat.2.1, by simp only; rw [w64 (by omega) (by omega)]; omega, hat.2.2.2⟩
    · rw [if_neg k1]
      by_cases k2 : k = 2
      · have m0 : 0 ≤ Int.tmod y 3 ∧ Int.tmod y 3 < 3 := by rw [Int.tmod_eq_emod_of_nonneg hy.1]; omega
        rw [if_pos k2, if_pos m0.1, if_pos (show Int.tmod y 3 < ((([(-1), 5, 1000000] : List Int).length : Nat) : Int) from m0.2), if_pos t0, if_pos t1]
        refine ⟨_, _, _, rfl, c3, by simp; omega, by simp; omega, hset _ ⟨hat.1, ?_, hat.2.2.1, hat.2.2.2⟩⟩
        simp only
        generalize Int.tmod y 3 = q at m0
        obtain ⟨m, rfl⟩ := Int.eq_ofNat_of_zero_le m0.1
        have hm : m = 0 ∨ m = 1 ∨ m = 2 := by omega
        rcases hm with rfl | rfl | rfl <;> decide
      · rw [if_neg k2]
        by_cases k3 : k = 3
        · rw [if_pos k3, if_pos (by omega), if_pos (by omega)]
          refine ⟨_, _, _, rfl, c3, by simp, by simp; omega, ?_⟩
          intro z hz
          rcases List.mem_append.1 hz with hz | hz
          · exact hs z hz
          · rw [List.mem_singleton.1 hz]
            have h0 : smallN (rd_T34 ns 0) := by
              have := rdI (l := ns) (i := 0) (by omega)
              simp only [Int.ofNat_eq_natCast, Int.natCast_zero] at this
              rw [show (0 : Int) = ((0 : Nat) : Int) from rfl, rdI (by omega)]
              exact hs _ (List.getElem_mem _)
            exact ⟨h0.1, h0.2.1, h0.2.2.1, h0.2.2.2⟩
        · rw [if_neg k3]
          exact ⟨_, _, _, rfl, c3, n1, by omega, hs⟩

-- IMPORT: Derived.BigGuard
-- IMPORT: Derived.RegionTactic
-- IMPORT: Derived.BigRegion
-- IMPORT: Derived.Carry
-- IMPORT: Derived.DeepKeys4
/-! an arena in a block that stays as it is -/
def AB (wr : World) (g : Nat) (A : Option Addr) (c : Nat) (L : List S34) : Prop := wr.heap[g]? = some (.cells #[.slice A L.length c] 26 (0, 0)) ∧ Kd.C k34 wr A L.length L ∧ L.length ≤ c
theorem AB.below {wr w1 : World} {g : Nat} {A : Option Addr} {c : Nat} {L : List S34} (h : AB wr g A c L) (hb : Below wr.heap.size wr w1) : AB w1 g A c L := ⟨blk_below h.1 hb, Kd.C_below h.2.1 hb, h.2.2⟩
theorem AB.cell {wr : World} {g : Nat} {A : Option Addr} {c : Nat} {L : List S34} (h : AB wr g A c L) : wr.cell? ⟨g, 0, none⟩ = some (.slice A L.length c) := (blk_cell h.1 0).trans rfl
theorem AB.row {wr : World} {g : Nat} {A : Option Addr} {c : Nat} {L : List S34} (h : AB wr g A c L) : Kd.C k34 wr A L.length L := h.2.1
theorem AB.cap {wr : World} {g : Nat} {A : Option Addr} {c : Nat} {L : List S34} (h : AB wr g A c L) : L.length ≤ c := h.2.2
theorem AB.first {w3 w4 : World} {base ga : Nat} {ok : Nat → Prop} {A : Option Addr} {c : Nat} {L : List S34} (ho : Kd.R k34 34 w3 base ok (.slice A L.length c) L) (hb : w4.heap[ga]? = some (.cells #[.slice none 0 0] 26 (0, 0))) (hg : ga = w3.heap.size) (h4 : Below w3.heap.size w3 w4) : AB (w4.setCell ⟨ga, 0, none⟩ (.slice A L.length c)) ga A c L := by
  obtain ⟨_, hc, hC⟩ := Kd.R_reads' ho
  exact ⟨blk_put hb 0 _ rfl, Kd.C_below hC (below_set h4 (by show w3.heap.size ≤ ga; omega)), hc⟩
theorem AB.keepB {w3 w4 : World} {ga : Nat} {u : Value} (hg : ga = w3.heap.size) (h4 : Below w3.heap.size w3 w4) : Below w3.heap.size w3 (w4.setCell ⟨ga, 0, none⟩ u) := below_set h4 (by show w3.heap.size ≤ ga; omega)

theorem cell_keep {W W1 : World} {ad : Addr} {v : Value} (hb : Below W.heap.size W W1) (h : W.cell? ad = some v) : W1.cell? ad = some v := (hb.cell (World.block_lt_of_cell? W _ h)).trans h
/-- a row that is only read -/
def BR (W : World) (v : Value) (xs : List Bool) : Prop := ∃ A c, v = .slice A xs.length c ∧ xs.length ≤ c ∧ Kd.C Kd.bool W A xs.length xs
theorem BR.below {W W1 : World} {v : Value} {xs : List Bool} (h : BR W v xs) (hb : Below W.heap.size W W1) : BR W1 v xs := by
  obtain ⟨A, c, e, hc, hC⟩ := h
  exact ⟨A, c, e, hc, Kd.C_below hC hb⟩

/-- the places that can be had, up to one -/
def idxs (has : List Bool) (n : Nat) : List Int := ((List.range n).filter (fun (j : Nat) => rdOf false has (j : Int))).map (fun (j : Nat) => (j : Int))
theorem idxs_succ (has : List Bool) (n : Nat) : idxs has (n + 1) = idxs has n ++ (if rdOf false has (n : Int) = true then [(n : Int)] else []) := by
  unfold idxs
  rw [List.range_succ, List.filter_append, List.map_append]
  congr 1
  by_cases h : rdOf false has (n : Int) = true
  · rw [if_pos h]; simp [h]
  · rw [if_neg h]; simp [h]
theorem idxs_length (has : List Bool) (n : Nat) : (idxs has n).length ≤ n := by
  unfold idxs
  rw [List.length_map]
  exact Nat.le_trans (List.length_filter_le _ _) (by simp)

theorem node_box {w4 w5 : World} {gn : Nat} {n0 n1 n2 n3 : Int} (hg : gn = w4.heap.size) (h5 : Below w4.heap.size w4 w5) (hN : w5.heap[gn]? = some (.cells #[.int .i64 0, .int .i64 0, .int .i64 0, .int .i64 0] 34 (0, 0))) :
    ((((w5.setCell ⟨gn, 0, none⟩ (.int .i64 n0)).setCell ⟨gn, 1, none⟩ (.int .i64 n1)).setCell ⟨gn, 2, none⟩ (.int .i64 n2)).setCell ⟨gn, 3, none⟩ (.int .i64 n3)).heap[gn]? = some (.cells #[.int .i64 n0, .int .i64 n1, .int .i64 n2, .int .i64 n3] 34 (0, 0)) ∧ Below w4.heap.size w4 ((((w5.setCell ⟨gn, 0, none⟩ (.int .i64 n0)).setCell ⟨gn, 1, none⟩ (.int .i64 n1)).setCell ⟨gn, 2, none⟩ (.int .i64 n2)).setCell ⟨gn, 3, none⟩ (.int .i64 n3)) := by
  have hs : w4.heap.size ≤ gn := by omega
  exact ⟨blk_put (blk_put (blk_put (blk_put hN 0 _ rfl) 1 _ rfl) 2 _ rfl) 3 _ rfl, below_set (below_set (below_set (below_set h5 hs) hs) hs) hs⟩
/-- what a node must not be -/
def lawN (bi ba bb b5 b2 b3 : Bool) : Bool := (bi && b5 && ba && !bb) || (b2 && bi && !(ba && bb)) || (b3 && ba && !bi)

set_option maxHeartbeats 8000000 in
set_option maxRecDepth 100000 in
theorem law_reaches (A0 : Option Addr) (c0 : Nat) (l0 : List Int) (k : Nat) (L X Y : List S34) (kn ps ks ls : List Int) (has more R1 : List Bool) (p0 x m : Int) (bd : Bool) (w : World) (hr0 : Kd.C (Kd.int .u8) w A0 l0.length l0) (hc0 : l0.length ≤ c0)
    (hbig : (l0.length : Int) ≤ 1048576) (h0 : spec_DrawKnown.f k l0 = some (L, kn)) (h1 : impl_Reach.f k L kn = some has) (h2 : spec_DrawPlaces.f k l0 = some ps) (hlen : ps.length = 12) (e0 : rd ps 0 = p0) (hx : Int.tmod p0 (L.length : Int) = x) (hn0 : (L.length : Int) ≠ 0) (h3 : impl_Reach.f k L (kn ++ [x]) = some more) (hkl : kn.length ≤ 1000) (hLl : L.length ≤ 1000)
    (hhl : has.length = L.length) (hml : more.length = L.length) (hsub : ∀ i : Int, 0 ≤ i → i < (has.length : Int) → rdOf false has i = true → rdOf false more i = true) (h4 : impl_Reach.f k L (idxs has has.length) = some has) (hkn : ∀ i : Int, 0 ≤ i → i < (kn.length : Int) → (0 ≤ rd kn i ∧ rd kn i < (has.length : Int)) ∧ rdOf false has (rd kn i) = true)
    (hpl : ∀ i : Int, 0 ≤ i → i < (L.length : Int) → (0 ≤ (rd_T34 L i).f2 ∧ (rd_T34 L i).f2 < (has.length : Int)) ∧ (0 ≤ (rd_T34 L i).f3 ∧ (rd_T34 L i).f3 < (has.length : Int)) ∧ lawN (rdOf false has i) (rdOf false has (rd_T34 L i).f2) (rdOf false has (rd_T34 L i).f3) ((rd_T34 L i).f0 == 5) ((rd_T34 L i).f0 == 2) ((rd_T34 L i).f0 == 3) = false ∧ impl_Derives.f k L kn i = some (rdOf false has i))
    (h5 : laws_sameBools.f k has has = some true) (h6 : spec_DrawReach.f k l0 = some (X, ks)) (h7 : impl_Reach.f k X ks = some R1) (h8 : spec_Reach.f k X ks = some R1) (h9 : laws_sameBools.f k R1 R1 = some true) (h10 : spec_DrawDerives.f k l0 = some (Y, ls, m)) (h11 : impl_Derives.f k Y ls m = some bd) (h12 : spec_Derives.f k Y ls m = some bd) :
    Calls Try.prog 3 #[.slice A0 l0.length c0] w fun e w' => e = .returned (.bool true) ∧ Below w.heap.size w w' := by
  have hu26 := Try.underlying26
  have hu34 := Try.underlying34
  have HR0 := Aside0.mk hr0
  have HC0 := Aside0.mk hc0
  have HBIG : Aside0 (laws_big.f l0 = some false) := ⟨by unfold laws_big.f; rw [decide_eq_false (by omega)]⟩
  have H0 := Aside0.mk h0
  have H1 := Aside0.mk h1
  have H2 := Aside0.mk h2
  have H3 := Aside0.mk h3
  have HLEN := Aside0.mk hlen
  have HKL := Aside0.mk hkl
  have HLL := Aside0.mk hLl
  have HHL := Aside0.mk hhl
  have HML := Aside0.mk hml
  have HSUB := Aside0.mk hsub
  have H4 := Aside0.mk h4
  have HKN := Aside0.mk hkn
  have HPL := Aside0.mk hpl
  have H5 := Aside0.mk h5
  have H6 := Aside0.mk h6
  have H7 := Aside0.mk h7
  have H8 := Aside0.mk h8
  have H9 := Aside0.mk h9
  have H10 := Aside0.mk h10
  have H11 := Aside0.mk h11
  have H12 := Aside0.mk h12
  have P0 := Aside0.mk e0
  have hn0f : ((L.length : Int) = 0) = False := eq_false hn0
  have hn0g : (L = []) = False := eq_false (by intro e; rw [e] at hn0; exact hn0 rfl)
  clear hr0 hc0 hbig hn0 e0 h0 h1 h2 h3 hlen hkl hLl hhl hml hsub h4 hkn hpl h5 h6 h7 h8 h9 h10 h11 h12
  go_enter Try.func3, Try.ntmps3
  go_wp2_with (first
    | (go_at_call 14; ((with_reducible refine (laws_big.calls A0 c0 l0 false _ HR0.out HC0.out HBIG.out).mono ?_); rintro e w2 ⟨rfl, hd_⟩); have HB2 := Aside0.mk hd_.below; clear hd_)
    | (go_at_call 15; ((with_reducible refine (spec_DrawKnown.calls k A0 c0 l0 L kn _ (Kd.C_below HR0.out HB2.out) HC0.out H0.out).mono ?_); rintro e w3 ⟨v0, v1, rfl, ho, ho1, hb⟩); obtain ⟨A3, c3, rfl, _, _⟩ := Kd.R_reads ho; obtain ⟨Ak, ck, rfl, hck, hCk⟩ := Kd.R_reads ho1; have HCK := Aside0.mk hck; have KN3 := Aside0.mk hCk; have HO3 := Aside0.mk ho; have HB3 := Aside0.mk (below_step HB2.out hb); clear ho ho1 hb hck hCk)
    | ((with_reducible refine gate_dst (N := 3) rfl ?_); refine box_event ?hg (N := 3) ?hd (cs := #[.slice none 0 0]) (t := 26) ?hr ?_; (case hd => rfl); (case hg => rfl); (case hr => first | (go_simp; done) | (go_simp; rfl)); intro g3 hg1 w4 hbox hb; have BK3 := Aside0.mk hbox; have HC3 := Aside0.mk hb; have G3 := Aside0.mk hg1; clear hg1 hbox hb; have X04 := Aside0.mk (AB.first HO3.out BK3.out G3.out HC3.out); have KB := Aside0.mk (AB.keepB (u := .slice A3 L.length c3) G3.out HC3.out); have KN4 := Aside0.mk (Kd.C_below KN3.out KB.out); have HB4 := Aside0.mk (below_step HB3.out KB.out); have hca4 : w4.cell? ⟨g3, 0, none⟩ = some (.slice none 0 0) := (blk_cell BK3.out 0).trans rfl; have hfa4 := blk_frozen BK3.out 0; have hci4 : (w4.setCell ⟨g3, 0, none⟩ (.slice A3 L.length c3)).cell? ⟨g3, 0, none⟩ = some (.slice A3 L.length c3) := X04.out.cell; clear KB)
    | (go_at_call 16; ((with_reducible refine (impl_Reach.calls k A3 c3 L Ak ck kn has _ X04.out.row X04.out.cap KN4.out HCK.out H1.out).mono ?_); rintro e w5 ⟨vh, rfl, ho, hb⟩); have BH5 := Aside0.mk (show BR w5 vh has from Kd.R_reads ho); have X05 := Aside0.mk (X04.out.below hb); have KN5 := Aside0.mk (Kd.C_below KN4.out hb); have HB5 := Aside0.mk (below_step HB4.out hb); clear ho hb)
    | (go_at_call 17; ((with_reducible refine (spec_DrawPlaces.calls k A0 c0 l0 ps _ (Kd.C_below HR0.out HB5.out) HC0.out H2.out).mono ?_); rintro e w6 ⟨vp, rfl, ho, hb⟩); obtain ⟨Ap, cp, rfl, hcp, hCp⟩ := Kd.R_reads ho; obtain ⟨adp, ea0, y0⟩ := Kd.at_int hCp 0 (by omega) (by have := HLEN.out; omega); rw [P0.out] at y0; cases ea0; have hp06 : w6.cell? adp = some (.int .i64 p0) := (by first | exact y0 | simpa using y0); have X06 := Aside0.mk (X05.out.below hb); have KN6 := Aside0.mk (Kd.C_below KN5.out hb); have BHx := Aside0.mk (BH5.out.below hb); have HB6 := Aside0.mk (below_step HB5.out hb); have hga6 : w6.cell? ⟨g3, 0, none⟩ = some (.slice A3 L.length c3) := X06.out.cell; clear ho hb hcp hCp y0))
  have hl1 : (0 : Int) < (ps.length : Int) := by have := HLEN.out; omega
  have hl4 : 0 < ps.length := by have := HLEN.out; omega
  refine start_ (n := 15) (S := fun w' => w'.cell? ⟨g3, 0, none⟩ = some (.slice A3 L.length c3) ∧ w'.cell? adp = some (.int .i64 p0)) (ds := []) #[false, false, false, false, false, false, false, false, false, false, false, false, false, false, false] (by kernel_rfl) rfl rfl ⟨hga6, hp06⟩ (fun hHeld => ?_)
  have HDW := Aside0.mk (below_drew (Below.refl w6.heap.size w6))
  have XAD := Aside0.mk (X06.out.below HDW.out)
  have KND := Aside0.mk (Kd.C_below KN6.out HDW.out)
  have hSga : w6.drew.cell? ⟨g3, 0, none⟩ = some (.slice A3 L.length c3) := hga6
  have hSp0 : w6.drew.cell? adp = some (.int .i64 p0) := hp06
  have HBW := Aside0.mk (below_step HB6.out HDW.out)
  have BH6 := Aside0.mk (BHx.out.below HDW.out)
  clear HDW
  generalize w6.drew = wd at XAD KND hSga hSp0 HBW BH6 hHeld ⊢
  have HBF0 := Aside0.mk (Below.refl wd.heap.size wd)
  refine pure_ (i := 2) (N := some 33) (v := ?_) (a' := ?_) #[false, false, true, false, false, false, false, false, false, false, false, false, false, false, false] rfl rfl (by kernel_rfl) (fun _ _ _ h => h) (Or.inl ⟨by rfl, ?_⟩) ?_ ?_
  rotate_left
  · intro w'
    go_simp
    with_reducible rfl
  rotate_left
  · simp only [Act.put, List.setIfInBounds_toArray, List.set_cons_zero, List.set_cons_succ, i64_w, i32_w]
    rfl
  refine pure_ (i := 4) (N := some 35) (v := ?_) (a' := ?_) #[false, false, true, false, true, false, false, false, false, false, false, false, false, false, false] rfl rfl (by kernel_rfl) (fun _ _ _ h => h) (Or.inl ⟨by rfl, ?_⟩) ?_ ?_
  rotate_left
  · intro w'
    go_simp
    with_reducible rfl
  rotate_left
  · simp only [Act.put, List.setIfInBounds_toArray, List.set_cons_zero, List.set_cons_succ, i64_w, i32_w]
    rfl
  refine pure_ (i := 5) (N := some 36) (v := ?_) (a' := ?_) #[false, false, true, false, true, true, false, false, false, false, false, false, false, false, false] rfl rfl (by kernel_rfl) (fun _ _ _ h => h) (Or.inl ⟨by rfl, ?_⟩) ?_ ?_
  rotate_left
  · intro w'
    go_simp
    with_reducible rfl
  rotate_left
  · simp only [Act.put, List.setIfInBounds_toArray, List.set_cons_zero, List.set_cons_succ, i64_w, i32_w]
    rfl
  refine pure_ (i := 7) (N := some 38) (v := ?_) (a' := ?_) #[false, false, true, false, true, true, false, true, false, false, false, false, false, false, false] rfl rfl (by kernel_rfl) (fun _ _ _ h => h) (Or.inl ⟨by rfl, ?_⟩) ?_ ?_
  rotate_left
  · intro w'
    go_simp
    with_reducible rfl
  rotate_left
  · simp only [Act.put, List.setIfInBounds_toArray, List.set_cons_zero, List.set_cons_succ, i64_w, i32_w]
    rfl
  refine take_ (i := 0) (N := some 31) (v := ?_) (a' := ?_) #[true, false, true, false, true, true, false, true, false, false, false, false, false, false, false] rfl rfl (by kernel_rfl) (fun _ _ _ h => h) (Or.inl ⟨by rfl, ?_⟩) hHeld ?_ ?_
  rotate_left
  · rintro w' ⟨s0, s1⟩
    go_simp
    with_reducible rfl
  rotate_left
  · simp only [Act.put, List.setIfInBounds_toArray, List.set_cons_zero, List.set_cons_succ, i64_w, i32_w]
    rfl
  refine take_ (i := 6) (N := some 37) (v := ?_) (a' := ?_) #[true, false, true, false, true, true, true, true, false, false, false, false, false, false, false] rfl rfl (by kernel_rfl) (fun _ _ _ h => h) (Or.inl ⟨by rfl, ?_⟩) hHeld ?_ ?_
  rotate_left
  · rintro w' ⟨s0, s1⟩
    go_simp
    with_reducible rfl
  rotate_left
  · simp only [Act.put, List.setIfInBounds_toArray, List.set_cons_zero, List.set_cons_succ, i64_w, i32_w]
    rfl
  refine take_ (i := 8) (N := some 39) (v := ?_) (a' := ?_) #[true, false, true, false, true, true, true, true, true, false, false, false, false, false, false] rfl rfl (by kernel_rfl) (fun _ _ _ h => h) (Or.inl ⟨by rfl, ?_⟩) hHeld ?_ ?_
  rotate_left
  · rintro w' ⟨s0, s1⟩
    go_simp
    with_reducible rfl
  rotate_left
  · simp only [Act.put, List.setIfInBounds_toArray, List.set_cons_zero, List.set_cons_succ, i64_w, i32_w]
    rfl
  refine pure_ (i := 9) (N := some 40) (v := ?_) (a' := ?_) #[true, false, true, false, true, true, true, true, true, true, false, false, false, false, false] rfl rfl (by kernel_rfl) (fun _ _ _ h => h) (Or.inl ⟨by rfl, ?_⟩) ?_ ?_
  rotate_left
  · intro w'
    go_simp
    with_reducible rfl
  rotate_left
  · simp only [Act.put, List.setIfInBounds_toArray, List.set_cons_zero, List.set_cons_succ, i64_w, i32_w]
    rfl
  refine pure_ (i := 10) (N := some 41) (v := ?_) (a' := ?_) #[true, false, true, false, true, true, true, true, true, true, true, false, false, false, false] rfl rfl (by kernel_rfl) (fun _ _ _ h => h) (Or.inl ⟨by rfl, ?_⟩) ?_ ?_
  rotate_left
  · intro w'
    go_simp
    with_reducible rfl
  rotate_left
  · simp only [Act.put, List.setIfInBounds_toArray, List.set_cons_zero, List.set_cons_succ, i64_w, i32_w]
    rfl
  refine join_ (σ := Value × Value × Value) 3 #[true, true, true, true, true, true, true, true, true, true, true, true, false, false, false] (fun s_ => [(32, s_.1), (34, s_.2.1), (42, s_.2.2)]) (fun s_ w' => (w'.cell? ⟨g3, 0, none⟩ = some (.slice A3 L.length c3) ∧ w'.cell? adp = some (.int .i64 p0)) ∧ Below wd.heap.size wd w' ∧ Kd.R (Kd.int .i64) 3 w' wd.heap.size (fun _ => True) s_.2.1 kn ∧ ∃ okc, Kd.R (Kd.int .i64) 3 w' wd.heap.size okc s_.2.2 [x]) ?_ ?_
  rotate_left
  · intro hCont
    refine two_ (i := 1) (j := 11) (Ni := some 32) (Nj := some 42) #[true, true, true, false, true, true, true, true, true, true, true, false, false, false, false] #[true, false, true, false, true, true, true, true, true, true, true, true, false, false, false] rfl rfl rfl rfl (by kernel_rfl) (by decide) (by decide) (fun K hK => ?_) (fun K hK => ?_)
    · skip
      refine Kd.R_lit_step (Kd.int .i64) _ 3 ?hg (N := 32) ?hd (xs := ([] : List Int)) (inner := []) (ok := fun _ => True) (okp := fun _ => True) ?hr ?hp (fun _ hk => hk) trivial (Below.refl _ _) (Nat.le_refl _) (by simp) ?_; (case hd => rfl); (case hg => rfl); (case hr => first | (go_simp; done) | (go_simp; rfl)); (case hp => exact (Reps.none _ _))
      intro vA wf1 hoA hbA hgA hnA
      have HBF1 := Aside0.mk (below_step HBF0.out hbA)
      have HRA := Aside0.mk (Kd.R_lower hoA HBF0.out.size)
      refine hK.out _ _ ⟨cell_keep HBF1.out hSga, cell_keep HBF1.out hSp0⟩ (fun hHeld => ?_)
      clear hK K
      refine norm_ (a' := ?_) ?_ ?_
      rotate_left
      · show Act.put _ (some 32) _ = _
        simp only [Act.put, List.setIfInBounds_toArray, List.set_cons_zero, List.set_cons_succ, i64_w, i32_w]
        rfl
      refine two_ (i := 3) (j := 11) (Ni := some 34) (Nj := some 42) #[true, true, true, true, true, true, true, true, true, true, true, false, false, false, false] #[true, true, true, false, true, true, true, true, true, true, true, true, false, false, false] rfl rfl rfl rfl (by kernel_rfl) (by decide) (by decide) (fun K hK => ?_) (fun K hK => ?_)
      · skip
        refine Kd.R_append_rows_step (Kd.int .i64) (w0 := wd) wd.heap.size (by rfl) (.tmp 32) (.tmp 33) 27 3 (.int .i64 0) 8 rfl Try.underlying27 info3 rfl (by decide) (by omega) vA [] kn Ak _ ck (fun _ => True) (fun _ => False) rfl rfl HRA.out (Kd.C_below KND.out HBF1.out) (fun _ _ h => h) (fun _ h => h.elim) (fun _ _ => trivial) HBF1.out HBF1.out.size (by have := HKL.out; simp; omega) ?_
        intro v34 wf2 ho34 hb34 hg34 hat34
        have HBF2 := Aside0.mk hb34
        rw [List.nil_append] at ho34
        have HR34 := Aside0.mk ho34
        refine hK.out _ _ ⟨cell_keep HBF2.out hSga, cell_keep HBF2.out hSp0⟩ (fun hHeld => ?_)
        clear hK K
        refine norm_ (a' := ?_) ?_ ?_
        rotate_left
        · show Act.put _ (some 34) _ = _
          simp only [Act.put, List.setIfInBounds_toArray, List.set_cons_zero, List.set_cons_succ, i64_w, i32_w]
          rfl
        refine one_ (i := 11) (N := some 42) #[true, true, true, true, true, true, true, true, true, true, true, true, false, false, false] rfl rfl (by kernel_rfl) (by decide) (fun K hK => ?_)
        refine Kd.R_lit_step (Kd.int .i64) _ 3 ?hg (N := 42) ?hd (xs := ([x] : List Int)) (inner := [.int .i64 x]) (ok := fun _ => True) (okp := fun _ => True) ?hr ?hp (fun _ hk => hk) trivial (Below.refl _ _) (Nat.le_refl _) (by simp) ?_; (case hd => rfl); (case hg => rfl); (case hr => first | (go_simp; done) | (go_simp; rfl)); (case hp => exact (Reps.one (show Kd.M (Kd.int .i64) _ _ _ x [.int .i64 x] from rfl) (Reps.none _ _)))
        intro vC wf3 hoC hbC hgC hnC
        have HBF3 := Aside0.mk (below_step HBF2.out hbC)
        have HV0 := Aside0.mk (Kd.R_lower hoC HBF2.out.size)
        have HR34f := Aside0.mk (Kd.R_below HR34.out hbC)
        refine hK.out _ _ ⟨cell_keep HBF3.out hSga, cell_keep HBF3.out hSp0⟩ (fun hHeld => ?_)
        clear hK K
        refine norm_ (a' := ?_) ?_ ?_
        rotate_left
        · show Act.put _ (some 42) _ = _
          simp only [Act.put, List.setIfInBounds_toArray, List.set_cons_zero, List.set_cons_succ, i64_w, i32_w]
          rfl
        exact norm_ (by simp only [putAll, Act.put, List.setIfInBounds_toArray, List.set_cons_zero, List.set_cons_succ]) (hCont (vA, v34, vC) _ ⟨⟨cell_keep HBF3.out hSga, cell_keep HBF3.out hSp0⟩, HBF3.out, HR34f.out, _, HV0.out⟩)
      · skip
        refine Kd.R_lit_step (Kd.int .i64) _ 3 ?hg (N := 42) ?hd (xs := ([x] : List Int)) (inner := [.int .i64 x]) (ok := fun _ => True) (okp := fun _ => True) ?hr ?hp (fun _ hk => hk) trivial (Below.refl _ _) (Nat.le_refl _) (by simp) ?_; (case hd => rfl); (case hg => rfl); (case hr => first | (go_simp; done) | (go_simp; rfl)); (case hp => exact (Reps.one (show Kd.M (Kd.int .i64) _ _ _ x [.int .i64 x] from rfl) (Reps.none _ _)))
        intro vC wf2 hoC hbC hgC hnC
        have HBF2 := Aside0.mk (below_step HBF1.out hbC)
        have HV0 := Aside0.mk (Kd.R_lower hoC HBF1.out.size)
        have HVC := Aside0.mk (Kd.R_lower (Kd.R_mono (Kd.R_bound hoC) (fun k hk => (show True ∧ some k ≠ vA.ownBlock from ⟨trivial, Kd.fresh' (Kd.R_lt HRA.out) k hk.2.1⟩))) HBF1.out.size)
        have HRA2 := Aside0.mk (Kd.R_below HRA.out hbC)
        clear HRA
        have HRA := HRA2
        clear HRA2
        refine hK.out _ _ ⟨cell_keep HBF2.out hSga, cell_keep HBF2.out hSp0⟩ (fun hHeld => ?_)
        clear hK K
        refine norm_ (a' := ?_) ?_ ?_
        rotate_left
        · show Act.put _ (some 42) _ = _
          simp only [Act.put, List.setIfInBounds_toArray, List.set_cons_zero, List.set_cons_succ, i64_w, i32_w]
          rfl
        refine one_ (i := 3) (N := some 34) #[true, true, true, true, true, true, true, true, true, true, true, true, false, false, false] rfl rfl (by kernel_rfl) (by decide) (fun K hK => ?_)
        refine Kd.R_append_rows_step (Kd.int .i64) (w0 := wd) wd.heap.size (by rfl) (.tmp 32) (.tmp 33) 27 3 (.int .i64 0) 8 rfl Try.underlying27 info3 rfl (by decide) (by omega) vA [] kn Ak _ ck (fun _ => True) (fun _ => False) rfl rfl HRA.out (Kd.C_below KND.out HBF2.out) (fun _ _ h => h) (fun _ h => h.elim) (fun _ _ => trivial) HBF2.out HBF2.out.size (by have := HKL.out; simp; omega) ?_
        intro v34 wf3 ho34 hb34 hg34 hat34
        have HBF3 := Aside0.mk hb34
        rw [List.nil_append] at ho34
        have HR34 := Aside0.mk ho34
        have HVD := Aside0.mk (Kd.R_after HVC.out hg34 hat34)
        refine hK.out _ _ ⟨cell_keep HBF3.out hSga, cell_keep HBF3.out hSp0⟩ (fun hHeld => ?_)
        clear hK K
        refine norm_ (a' := ?_) ?_ ?_
        rotate_left
        · show Act.put _ (some 34) _ = _
          simp only [Act.put, List.setIfInBounds_toArray, List.set_cons_zero, List.set_cons_succ, i64_w, i32_w]
          rfl
        exact norm_ (by simp only [putAll, Act.put, List.setIfInBounds_toArray, List.set_cons_zero, List.set_cons_succ]) (hCont (vA, v34, vC) _ ⟨⟨cell_keep HBF3.out hSga, cell_keep HBF3.out hSp0⟩, HBF3.out, HR34.out, _, HVD.out⟩)
    · skip
      refine Kd.R_lit_step (Kd.int .i64) _ 3 ?hg (N := 42) ?hd (xs := ([x] : List Int)) (inner := [.int .i64 x]) (ok := fun _ => True) (okp := fun _ => True) ?hr ?hp (fun _ hk => hk) trivial (Below.refl _ _) (Nat.le_refl _) (by simp) ?_; (case hd => rfl); (case hg => rfl); (case hr => first | (go_simp; done) | (go_simp; rfl)); (case hp => exact (Reps.one (show Kd.M (Kd.int .i64) _ _ _ x [.int .i64 x] from rfl) (Reps.none _ _)))
      intro vC wf1 hoC hbC hgC hnC
      have HBF1 := Aside0.mk (below_step HBF0.out hbC)
      have HV0 := Aside0.mk (Kd.R_lower hoC HBF0.out.size)
      refine hK.out _ _ ⟨cell_keep HBF1.out hSga, cell_keep HBF1.out hSp0⟩ (fun hHeld => ?_)
      clear hK K
      refine norm_ (a' := ?_) ?_ ?_
      rotate_left
      · show Act.put _ (some 42) _ = _
        simp only [Act.put, List.setIfInBounds_toArray, List.set_cons_zero, List.set_cons_succ, i64_w, i32_w]
        rfl
      refine one_ (i := 1) (N := some 32) #[true, true, true, false, true, true, true, true, true, true, true, true, false, false, false] rfl rfl (by kernel_rfl) (by decide) (fun K hK => ?_)
      refine Kd.R_lit_step (Kd.int .i64) _ 3 ?hg (N := 32) ?hd (xs := ([] : List Int)) (inner := []) (ok := fun _ => True) (okp := fun _ => True) ?hr ?hp (fun _ hk => hk) trivial (Below.refl _ _) (Nat.le_refl _) (by simp) ?_; (case hd => rfl); (case hg => rfl); (case hr => first | (go_simp; done) | (go_simp; rfl)); (case hp => exact (Reps.none _ _))
      intro vA wf2 hoA hbA hgA hnA
      have HBF2 := Aside0.mk (below_step HBF1.out hbA)
      have HRA := Aside0.mk (Kd.R_lower hoA HBF1.out.size)
      have HVC := Aside0.mk (Kd.R_mono (Kd.R_below (Kd.R_mono (Kd.R_bound HV0.out) (fun k hk => (show True ∧ some k ≠ vA.ownBlock from ⟨trivial, fun e => by obtain ⟨b, hb1, hb2⟩ := hnA; rw [hb1] at e; have e2 := Option.some.inj e; have := hk.2.2.1; omega⟩))) hbA) (fun k hk => hk))
      refine hK.out _ _ ⟨cell_keep HBF2.out hSga, cell_keep HBF2.out hSp0⟩ (fun hHeld => ?_)
      clear hK K
      refine norm_ (a' := ?_) ?_ ?_
      rotate_left
      · show Act.put _ (some 32) _ = _
        simp only [Act.put, List.setIfInBounds_toArray, List.set_cons_zero, List.set_cons_succ, i64_w, i32_w]
        rfl
      refine one_ (i := 3) (N := some 34) #[true, true, true, true, true, true, true, true, true, true, true, true, false, false, false] rfl rfl (by kernel_rfl) (by decide) (fun K hK => ?_)
      refine Kd.R_append_rows_step (Kd.int .i64) (w0 := wd) wd.heap.size (by rfl) (.tmp 32) (.tmp 33) 27 3 (.int .i64 0) 8 rfl Try.underlying27 info3 rfl (by decide) (by omega) vA [] kn Ak _ ck (fun _ => True) (fun _ => False) rfl rfl HRA.out (Kd.C_below KND.out HBF2.out) (fun _ _ h => h) (fun _ h => h.elim) (fun _ _ => trivial) HBF2.out HBF2.out.size (by have := HKL.out; simp; omega) ?_
      intro v34 wf3 ho34 hb34 hg34 hat34
      have HBF3 := Aside0.mk hb34
      rw [List.nil_append] at ho34
      have HR34 := Aside0.mk ho34
      have HVD := Aside0.mk (Kd.R_after HVC.out hg34 hat34)
      refine hK.out _ _ ⟨cell_keep HBF3.out hSga, cell_keep HBF3.out hSp0⟩ (fun hHeld => ?_)
      clear hK K
      refine norm_ (a' := ?_) ?_ ?_
      rotate_left
      · show Act.put _ (some 34) _ = _
        simp only [Act.put, List.setIfInBounds_toArray, List.set_cons_zero, List.set_cons_succ, i64_w, i32_w]
        rfl
      exact norm_ (by simp only [putAll, Act.put, List.setIfInBounds_toArray, List.set_cons_zero, List.set_cons_succ]) (hCont (vA, v34, vC) _ ⟨⟨cell_keep HBF3.out hSga, cell_keep HBF3.out hSp0⟩, HBF3.out, HR34.out, _, HVD.out⟩)
  rintro ⟨vA, v34, vC⟩ wf ⟨⟨hS0, hS1⟩, hbF, hRF, okc, hCF⟩
  have hHeld : wf.cell? ⟨g3, 0, none⟩ = some (.slice A3 L.length c3) ∧ wf.cell? adp = some (.int .i64 p0) := ⟨hS0, hS1⟩
  obtain ⟨Ac, cc, ec, hcc, hCc⟩ := Kd.R_reads hCF
  simp only at ec
  subst ec
  refine norm_ (a' := ?_) ?_ ?_
  rotate_left
  · simp only [putAll, Act.put, List.setIfInBounds_toArray, List.set_cons_zero, List.set_cons_succ]
    rfl
  refine one_ (i := 12) (N := some 43) #[true, true, true, true, true, true, true, true, true, true, true, true, true, false, false] rfl rfl (by kernel_rfl) (by decide) (fun K hK => ?_)
  refine Kd.R_append_rows_step (Kd.int .i64) (w0 := wd) wd.heap.size (by rfl) (.tmp 34) (.tmp 42) 27 3 (.int .i64 0) 8 rfl Try.underlying27 info3 rfl (by decide) (by omega) v34 kn [x] Ac _ cc (fun _ => True) (fun _ => False) rfl rfl hRF hCc (fun _ _ h => h) (fun _ h => h.elim) (fun _ _ => trivial) hbF hbF.size (by have := HKL.out; simp; omega) ?_
  intro v43 w43 ho43 hb43 hg43 hat43
  obtain ⟨A43, c43, e43, hc43, hC43⟩ := Kd.R_reads ho43
  subst e43
  refine hK.out _ _ ⟨cell_keep hb43 hSga, cell_keep hb43 hSp0⟩ (fun hHeld => ?_)
  clear hK K
  refine norm_ (a' := ?_) ?_ ?_
  rotate_left
  · show Act.put _ (some 43) _ = _
    simp only [Act.put, List.setIfInBounds_toArray, List.set_cons_zero, List.set_cons_succ, i64_w, i32_w]
    rfl
  refine one_ (i := 13) (N := some 44) #[true, true, true, true, true, true, true, true, true, true, true, true, true, true, false] rfl rfl (by kernel_rfl) (by decide) (fun K hK => ?_)
  refine goes_ Try.func16 (by kernel_rfl) rfl #[.agg #[.slice A3 L.length c3], .slice A43 (kn ++ [x]).length c43] (by rfl) rfl rfl (by simp only [List.map_toArray, List.map_cons, List.map_nil]; rfl) ?_
  with_reducible refine (impl_Reach.calls k A3 c3 L A43 c43 (kn ++ [x]) more _ (Kd.C_below XAD.out.row hb43) XAD.out.cap hC43 hc43 H3.out).mono ?_
  rintro e w44 ⟨v44, rfl, ho44, hb44⟩
  refine ⟨_, rfl, ?_⟩
  have HB44 := Aside0.mk (below_step hb43 hb44)
  have MR := Aside0.mk (show BR w44 v44 more from Kd.R_reads ho44)
  refine hK.out _ _ ⟨cell_keep HB44.out hSga, cell_keep HB44.out hSp0⟩ (fun hHeld => ?_)
  clear hK K
  refine norm_ (a' := ?_) ?_ ?_
  rotate_left
  · show Act.put _ (some 44) _ = _
    simp only [Act.put, List.setIfInBounds_toArray, List.set_cons_zero, List.set_cons_succ, i64_w, i32_w]
    rfl
  refine pure_ (i := 14) (N := some 7) (v := ?_) (a' := ?_) #[true, true, true, true, true, true, true, true, true, true, true, true, true, true, true] rfl rfl (by kernel_rfl) (fun _ _ _ h => h) (Or.inl ⟨by rfl, ?_⟩) ?_ ?_
  rotate_left
  · intro w'
    go_simp
    with_reducible rfl
  rotate_left
  · simp only [Act.put, List.setIfInBounds_toArray, List.set_cons_zero, List.set_cons_succ, i64_w, i32_w]
    rfl
  refine done_ (by kernel_rfl) ?_
  obtain ⟨Ah, chh, eh, hch, hCh⟩ := BH6.out
  subst eh
  have X44 := Aside0.mk (XAD.out.below HB44.out)
  have KN44 := Aside0.mk (Kd.C_below KND.out HB44.out)
  have HH44 := Aside0.mk (Kd.C_below hCh HB44.out)
  have HB44w := Aside0.mk (below_step HBW.out HB44.out)
  obtain ⟨Am, cm, em, hcm, hCm⟩ := MR.out
  subst em
  have HM44 := Aside0.mk hCm
  have HCH := Aside0.mk hch
  clear hCh hch hCm hcm hbF hRF hCF hcc hCc hb43 hg43 hat43 ho43 hC43 hc43 ho44 hb44 hS0 hS1 hSga hSp0 hHeld hga6 hp06
  go_wp2_with (first
    | ((with_reducible refine gate_dst (N := 45) rfl ?_); refine Kd.R_lit (Kd.int .i64) _ 3 ?hg (N := 45) ?hd (xs := ([] : List Int)) (inner := []) (ok := fun _ => True) (okp := fun _ => True) ?hr ?hp (fun _ hk => hk) trivial (Below.refl _ _) (Nat.le_refl _) (by simp) ?_; (case hd => rfl); (case hg => rfl); (case hr => first | (go_simp; done) | (go_simp; rfl)); (case hp => exact (Reps.none _ _)); intro va w45 ho45 hb45 hg45 hn45; have HO45 := Aside0.mk ho45; have HB45 := Aside0.mk hb45; clear ho45 hb45 hg45 hn45))
  go_loopw [8, 9] (fun v8 v9 wr => ∃ i : Int, 0 ≤ i ∧ i ≤ (has.length : Int) ∧ v9 = .int .i64 i ∧ Aside0 (Kd.R (Kd.int .i64) 3 wr w44.heap.size (fun _ => True) v8 (idxs has i.toNat)) ∧ Aside0 (Below w44.heap.size w44 wr)) (fun _ i _ => ((has.length : Int) - intOf i).toNat)
  case atStart => exact ⟨0, by omega, by omega, rfl, HO45, HB45⟩
  case round =>
    obtain ⟨i, hi0, hi1, rfl, HR8, HBl⟩ := hrel
    have Hi0 := Aside0.mk hi0
    have Hi1 := Aside0.mk hi1
    by_cases hlt : i < (has.length : Int)
    · have Hlt := Aside0.mk hlt
      obtain ⟨adh, eh, xh⟩ := Kd.at_bool (Kd.C_below HH44.out HBl.out) i hi0 hlt
      obtain ⟨adm, em, xm⟩ := Kd.at_bool (Kd.C_below HM44.out HBl.out) i hi0 (by have := HML.out; have := HHL.out; omega)
      cases eh
      cases em
      have p0 : (0 ≤ i) = True := eq_true hi0
      have p1 : (i < (has.length : Int)) = True := eq_true hlt
      have p2 : decide (i < (has.length : Int)) = true := decide_eq_true hlt
      have p3 : decide (0 ≤ i) = true := decide_eq_true hi0
      have p4 : (i < (more.length : Int)) = True := eq_true (by have := HML.out; have := HHL.out; omega)
      have HSI := Aside0.mk (HSUB.out i hi0 hlt)
      have HID := Aside0.mk (idxs_succ has i.toNat)
      rw [Int.toNat_of_nonneg hi0] at HID
      cases hb : rdOf false has i with
      | true =>
        have hm := HSI.out hb
        rw [hb] at xh HID
        rw [hm] at xm
        clear hm hb hi0 hi1 hlt
        go_wp2_with (first
          | ((with_reducible refine gate_builtin (b := .append) (xs := #[.tmp 67, .tmp 69]) rfl ?_); at_builtin; refine Kd.R_append (Kd.int .i64) (w0 := w44) w44.heap.size rfl (.tmp 67) (.tmp 69) 27 3 (.int .i64 0) 8 rfl Try.underlying27 info3 rfl (by decide) (by omega) _ (idxs has i.toNat) i [.int .i64 i] (fun _ => True) (fun _ => False) rfl rfl ?aP (fun _ hk => hk.elim) ?aF ?aO ?aB ?aS ?aL ?_; (case aP => exact rfl); (case aF => exact fun _ _ => trivial); (case aO => exact HR8.out); (case aB => exact HBl.out); (case aS => exact HBl.out.size); (case aL => have h1 := idxs_length has i.toNat; have h2 := Hi1.out; have h3 := Hi0.out; have h4 := HHL.out; have h5 := HLL.out; omega); intro vb w46 ho hb hg hat; have HO46 := Aside0.mk ho; have HB46 := Aside0.mk hb; clear ho hb hg hat))
        go_roundw
        case rel =>
          have h0 := Hi0.out
          have h1 := Hlt.out
          have h5 := HLL.out
          have h6 := HHL.out
          refine ⟨i + 1, by omega, by omega, by first | rfl | (simp only [Value.int.injEq, true_and]; exact w64 (by omega) (by omega)), ⟨?_⟩, HB46⟩
          rw [show (i + 1).toNat = i.toNat + 1 by omega, HID.out, if_pos rfl]
          exact HO46.out
        case measure => have hii := Hi0.out; have hij := Hlt.out; have hl3 := HLL.out; have hl4 := HHL.out; have hw := w64 (x := i + 1) (by omega) (by omega); simp only [intOf]; simp; try rw [hw]; omega
      | false =>
        rw [hb] at xh HID
        clear hb hi0 hi1 hlt
        go_wp2
        go_roundw
        case rel =>
          have h0 := Hi0.out
          have h1 := Hlt.out
          have h5 := HLL.out
          have h6 := HHL.out
          refine ⟨i + 1, by omega, by omega, by first | rfl | (simp only [Value.int.injEq, true_and]; exact w64 (by omega) (by omega)), ⟨?_⟩, HBl⟩
          rw [show (i + 1).toNat = i.toNat + 1 by omega, HID.out, if_neg (by decide), List.append_nil]
          exact HR8.out
        case measure => have hii := Hi0.out; have hij := Hlt.out; have hl3 := HLL.out; have hl4 := HHL.out; have hw := w64 (x := i + 1) (by omega) (by omega); simp only [intOf]; simp; try rw [hw]; omega
    · have hie : i = (has.length : Int) := by omega
      subst hie
      have p2 : decide ((has.length : Int) < (has.length : Int)) = false := decide_eq_false (by omega)
      rw [Int.toNat_natCast] at HR8
      obtain ⟨Aa, ca, ea, hca, hCa⟩ := Kd.R_reads HR8.out
      subst ea
      have HCA := Aside0.mk hca
      have HAL := Aside0.mk hCa
      have X46 := Aside0.mk (X44.out.below HBl.out)
      have hcg46 := X46.out.cell
      clear hca hCa hlt hi0 hi1 HR8
      go_wp2_with (first
        | (go_at_call 16; ((with_reducible refine (impl_Reach.calls k A3 c3 L Aa ca (idxs has has.length) has _ X46.out.row X46.out.cap HAL.out HCA.out H4.out).mono ?_); rintro e w50 ⟨v50, rfl, ho, hb⟩); have BA50 := Aside0.mk (show BR w50 v50 has from Kd.R_reads ho); have HBA := Aside0.mk (below_step HBl.out hb); clear ho hb))
      clear hcg46
      have X50 := Aside0.mk (X44.out.below HBA.out)
      have KN50 := Aside0.mk (Kd.C_below KN44.out HBA.out)
      have HH50 := Aside0.mk (Kd.C_below HH44.out HBA.out)
      have HB50 := Aside0.mk (below_step HB44w.out HBA.out)
      clear X46 HAL HCA HBl HBA
      go_loopw [11] (fun v11 wr => ∃ i : Int, 0 ≤ i ∧ i ≤ (kn.length : Int) ∧ v11 = .int .i64 i ∧ Aside0 (Below w50.heap.size w50 wr)) (fun i _ => ((kn.length : Int) - intOf i).toNat)
      case atStart => exact ⟨0, by omega, by omega, rfl, ⟨Below.refl _ _⟩⟩
      case round =>
        obtain ⟨i, hi0, hi1, rfl, HBl⟩ := hrel
        have Hi0 := Aside0.mk hi0
        have Hi1 := Aside0.mk hi1
        by_cases hlt : i < (kn.length : Int)
        · have Hlt := Aside0.mk hlt
          obtain ⟨hq, hqt⟩ := HKN.out i hi0 hlt
          obtain ⟨adk, ek, xk⟩ := Kd.at_int (Kd.C_below KN50.out HBl.out) i hi0 hlt
          cases ek
          generalize rd kn i = q at xk hq hqt
          obtain ⟨adh, eh, xh⟩ := Kd.at_bool (Kd.C_below HH50.out HBl.out) q hq.1 hq.2
          cases eh
          rw [hqt] at xh
          have p0 : (0 ≤ i) = True := eq_true hi0
          have p1 : (i < (kn.length : Int)) = True := eq_true hlt
          have p2 : decide (i < (kn.length : Int)) = true := decide_eq_true hlt
          have p3 : (0 ≤ q) = True := eq_true hq.1
          have p4 : (q < (has.length : Int)) = True := eq_true hq.2
          clear hq hqt hi0 hi1 hlt
          go_wp2
          go_roundw
          case rel =>
            have h0 := Hi0.out
            have h1 := Hlt.out
            have h5 := HKL.out
            refine ⟨i + 1, by omega, by omega, by first | rfl | (simp only [Value.int.injEq, true_and]; exact w64 (by omega) (by omega)), HBl⟩
          case measure => have hii := Hi0.out; have hij := Hlt.out; have hl3 := HKL.out; have hw := w64 (x := i + 1) (by omega) (by omega); simp only [intOf]; simp; try rw [hw]; omega
        · have hie : i = (kn.length : Int) := by omega
          subst hie
          have p2 : decide ((kn.length : Int) < (kn.length : Int)) = false := decide_eq_false (by omega)
          have X51 := Aside0.mk (X50.out.below HBl.out)
          have hcg51 := X51.out.cell
          clear hlt hi0 hi1
          go_wp2
          go_loopw [12] (fun v12 wr => ∃ i : Int, 0 ≤ i ∧ i ≤ (L.length : Int) ∧ v12 = .int .i64 i ∧ Aside0 (Below w50.heap.size w50 wr)) (fun i _ => ((L.length : Int) - intOf i).toNat)
          case atStart => exact ⟨0, by omega, by omega, rfl, HBl⟩
          case round =>
            clear HBl X51 hcg51
            obtain ⟨i, hi0, hi1, rfl, HBl⟩ := hrel
            have Hi0 := Aside0.mk hi0
            have Hi1 := Aside0.mk hi1
            by_cases hlt : i < (L.length : Int)
            · have Hlt := Aside0.mk hlt
              obtain ⟨hA, hB, hlaw, hder⟩ := HPL.out i hi0 hlt
              have HDER := Aside0.mk hder
              have X60 := Aside0.mk (X50.out.below HBl.out)
              obtain ⟨adn, en, n0, n1, n2, n3⟩ := at_T34 X60.out.row i hi0 hlt
              cases en
              have hcg60 := X60.out.cell
              obtain ⟨m0, hm0⟩ : ∃ z, (rd_T34 L i).f0 = z := ⟨_, rfl⟩
              obtain ⟨m1, hm1⟩ : ∃ z, (rd_T34 L i).f1 = z := ⟨_, rfl⟩
              obtain ⟨m2, hm2⟩ : ∃ z, (rd_T34 L i).f2 = z := ⟨_, rfl⟩
              obtain ⟨m3, hm3⟩ : ∃ z, (rd_T34 L i).f3 = z := ⟨_, rfl⟩
              rw [hm0] at n0 hlaw
              rw [hm1] at n1
              rw [hm2] at n2 hlaw hA
              rw [hm3] at n3 hlaw hB
              have hil : i < (has.length : Int) := by have := HHL.out; omega
              obtain ⟨adh, eh, xi⟩ := Kd.at_bool (Kd.C_below HH50.out HBl.out) i hi0 hil
              obtain ⟨adg, eg, xa⟩ := Kd.at_bool (Kd.C_below HH50.out HBl.out) m2 hA.1 hA.2
              obtain ⟨adf, ef, xb⟩ := Kd.at_bool (Kd.C_below HH50.out HBl.out) m3 hB.1 hB.2
              cases eh
              cases eg
              cases ef
              obtain ⟨bi, hbi⟩ : ∃ z, rdOf false has i = z := ⟨_, rfl⟩
              obtain ⟨ba, hba⟩ : ∃ z, rdOf false has m2 = z := ⟨_, rfl⟩
              obtain ⟨bb, hbb⟩ : ∃ z, rdOf false has m3 = z := ⟨_, rfl⟩
              have HBI := Aside0.mk hbi
              rw [hbi] at xi hlaw
              rw [hbi] at HDER
              rw [hba] at xa hlaw
              rw [hbb] at xb hlaw
              have XI := Aside0.mk xi
              have p0 : (0 ≤ i) = True := eq_true hi0
              have p1 : (i < (L.length : Int)) = True := eq_true hlt
              have p2 : decide (i < (L.length : Int)) = true := decide_eq_true hlt
              have p3 : (i < (has.length : Int)) = True := eq_true hil
              have p4 : (0 ≤ m2) = True := eq_true hA.1
              have p5 : (m2 < (has.length : Int)) = True := eq_true hA.2
              have p6 : (0 ≤ m3) = True := eq_true hB.1
              have p7 : (m3 < (has.length : Int)) = True := eq_true hB.2
              have HLAW := Aside0.mk hlaw
              have KIND : ((m0 == 5) = true ∧ (m0 == 2) = false ∧ (m0 == 3) = false) ∨ ((m0 == 5) = false ∧ (m0 == 2) = true ∧ (m0 == 3) = false) ∨ ((m0 == 5) = false ∧ (m0 == 2) = false ∧ (m0 == 3) = true) ∨ ((m0 == 5) = false ∧ (m0 == 2) = false ∧ (m0 == 3) = false) := by
                by_cases k5 : m0 = 5
                · exact .inl ⟨by simp [k5], by simp [k5], by simp [k5]⟩
                · by_cases k2 : m0 = 2
                  · exact .inr (.inl ⟨by simp [k2], by simp [k2], by simp [k2]⟩)
                  · by_cases k3 : m0 = 3
                    · exact .inr (.inr (.inl ⟨by simp [k3], by simp [k3], by simp [k3]⟩))
                    · exact .inr (.inr (.inr ⟨by simp [k5], by simp [k2], by simp [k3]⟩))
              have HKIND := Aside0.mk KIND
              clear hi0 hi1 hlt hA hB hlaw hder hil hm0 hm1 hm2 hm3 hbi hba hbb KIND
              go_upto_region 25 with (first | ((with_reducible refine gate_dst (N := 13) rfl ?_); refine box_event ?hg (N := 13) ?hd (cs := #[.int .i64 0, .int .i64 0, .int .i64 0, .int .i64 0]) (t := 34) ?hr ?_; (case hd => rfl); (case hg => rfl); (case hr => first | (go_simp; done) | (go_simp; rfl)); intro gn hg1 w60 hbox hb; have BKn := Aside0.mk hbox; have HCn := Aside0.mk hb; have GN := Aside0.mk hg1; clear hg1 hbox hb; have HN := Aside0.mk (node_box (n0 := m0) (n1 := m1) (n2 := m2) (n3 := m3) GN.out HCn.out BKn.out); have hfn := blk_frozen BKn.out; have hcn0 : w60.cell? ⟨gn, 0, none⟩ = some (.int .i64 0) := (blk_cell BKn.out 0).trans rfl; have hcn1 : w60.cell? ⟨gn, 1, none⟩ = some (.int .i64 0) := (blk_cell BKn.out 1).trans rfl; have hcn2 : w60.cell? ⟨gn, 2, none⟩ = some (.int .i64 0) := (blk_cell BKn.out 2).trans rfl; have hcn3 : w60.cell? ⟨gn, 3, none⟩ = some (.int .i64 0) := (blk_cell BKn.out 3).trans rfl))
              (try simp only [Act.put, List.setIfInBounds_toArray, List.set_cons_zero, List.set_cons_succ])
              go_cut [168] (fun v168 wc => v168 = .bool false ∧ Aside0 (Below w50.heap.size w50 wc))
              case first =>
                have hh60 := cell_keep HN.out.2 xi
                have hh61 := cell_keep HN.out.2 xa
                have hh62 := cell_keep HN.out.2 xb
                have HB61 := Aside0.mk (below_step HBl.out HN.out.2)
                have q0 : World.cell? ((((w60.setCell ⟨gn, 0, none⟩ (.int .i64 m0)).setCell ⟨gn, 1, none⟩ (.int .i64 m1)).setCell ⟨gn, 2, none⟩ (.int .i64 m2)).setCell ⟨gn, 3, none⟩ (.int .i64 m3)) ⟨gn, 0, none⟩ = some (.int .i64 m0) := (blk_cell HN.out.1 0).trans rfl
                have q2 : World.cell? ((((w60.setCell ⟨gn, 0, none⟩ (.int .i64 m0)).setCell ⟨gn, 1, none⟩ (.int .i64 m1)).setCell ⟨gn, 2, none⟩ (.int .i64 m2)).setCell ⟨gn, 3, none⟩ (.int .i64 m3)) ⟨gn, 2, none⟩ = some (.int .i64 m2) := (blk_cell HN.out.1 2).trans rfl
                have q3 : World.cell? ((((w60.setCell ⟨gn, 0, none⟩ (.int .i64 m0)).setCell ⟨gn, 1, none⟩ (.int .i64 m1)).setCell ⟨gn, 2, none⟩ (.int .i64 m2)).setCell ⟨gn, 3, none⟩ (.int .i64 m3)) ⟨gn, 3, none⟩ = some (.int .i64 m3) := (blk_cell HN.out.1 3).trans rfl
                clear xi xa xb n0 n1 n2 n3 hcg60 hfn hcn0 hcn1 hcn2 hcn3 HN BKn HCn GN
                generalize ((((w60.setCell ⟨gn, 0, none⟩ (.int .i64 m0)).setCell ⟨gn, 1, none⟩ (.int .i64 m1)).setCell ⟨gn, 2, none⟩ (.int .i64 m2)).setCell ⟨gn, 3, none⟩ (.int .i64 m3)) = w61 at hh60 hh61 hh62 HB61 q0 q2 q3 ⊢
                simp only [List.append_eq, List.cons_append, List.nil_append]
                rcases HKIND.out with ⟨k5, k2, k3⟩ | ⟨k5, k2, k3⟩ | ⟨k5, k2, k3⟩ | ⟨k5, k2, k3⟩
                all_goals rw [k5, k2, k3] at HLAW
                · cases bi with
                  | false => go_wp2; go_meet; case rel => exact ⟨rfl, HB61⟩
                  | true =>
                    cases ba with
                    | false => go_wp2; go_meet; case rel => exact ⟨rfl, HB61⟩
                    | true =>
                      cases bb with
                      | false => exact absurd HLAW.out (by decide)
                      | true => go_wp2; go_meet; case rel => exact ⟨rfl, HB61⟩
                · cases bi with
                  | false => go_wp2; go_meet; case rel => exact ⟨rfl, HB61⟩
                  | true =>
                    cases ba with
                    | false => exact absurd HLAW.out (by cases bb <;> decide)
                    | true =>
                      cases bb with
                      | false => exact absurd HLAW.out (by decide)
                      | true => go_wp2; go_meet; case rel => exact ⟨rfl, HB61⟩
                · cases ba with
                  | false => cases bi <;> (go_wp2; go_meet; case rel => exact ⟨rfl, HB61⟩)
                  | true =>
                    cases bi with
                    | false => exact absurd HLAW.out (by cases bb <;> decide)
                    | true => go_wp2; go_meet; case rel => exact ⟨rfl, HB61⟩
                · cases bi <;> (go_wp2; go_meet; case rel => exact ⟨rfl, HB61⟩)
              case rest =>
                clear xi xa xb n0 n1 n2 n3 hcg60 hfn hcn0 hcn1 hcn2 hcn3 HN BKn HCn GN HKIND HLAW p4 p5 p6 p7
                obtain ⟨rfl, HBc⟩ := hcut
                obtain ⟨adh2, eh2, xi2⟩ := Kd.at_bool (Kd.C_below HH50.out HBc.out) i Hi0.out (by have h1 := Hlt.out; have h2 := HHL.out; omega)
                cases eh2
                rw [HBI.out] at xi2
                have X62 := Aside0.mk (X50.out.below HBc.out)
                have hcg62 := X62.out.cell
                have p9 : (bi != bi) = false := by simp
                go_wp2
                have HDc := Aside0.mk (below_drew (Below.refl wc.heap.size wc))
                refine start_ (n := 9) (S := fun w' => w'.cell? ⟨g3, 0, none⟩ = some (.slice (some adn) L.length c3) ∧ w'.cell? (adh.add i.toNat) = some (.bool bi)) (ds := []) #[false, false, false, false, false, false, false, false, false] (by kernel_rfl) rfl rfl ⟨cell_keep HDc.out hcg62, cell_keep HDc.out xi2⟩ (fun hHeld => ?_)
                refine pure_ (i := 1) (N := some 170) (v := ?_) (a' := ?_) #[false, true, false, false, false, false, false, false, false] rfl rfl (by kernel_rfl) (fun _ _ _ h => h) (Or.inl ⟨by rfl, ?_⟩) ?_ ?_
                rotate_left
                · intro w'
                  go_simp
                  with_reducible rfl
                rotate_left
                · simp only [Act.put, List.setIfInBounds_toArray, List.set_cons_zero, List.set_cons_succ, i64_w, i32_w]
                  rfl
                refine pure_ (i := 2) (N := some 171) (v := ?_) (a' := ?_) #[false, true, true, false, false, false, false, false, false] rfl rfl (by kernel_rfl) (fun _ _ _ h => h) (Or.inl ⟨by rfl, ?_⟩) ?_ ?_
                rotate_left
                · intro w'
                  go_simp
                  with_reducible rfl
                rotate_left
                · simp only [Act.put, List.setIfInBounds_toArray, List.set_cons_zero, List.set_cons_succ, i64_w, i32_w]
                  rfl
                refine pure_ (i := 4) (N := some 173) (v := ?_) (a' := ?_) #[false, true, true, false, true, false, false, false, false] rfl rfl (by kernel_rfl) (fun _ _ _ h => h) (Or.inl ⟨by rfl, ?_⟩) ?_ ?_
                rotate_left
                · intro w'
                  go_simp
                  with_reducible rfl
                rotate_left
                · simp only [Act.put, List.setIfInBounds_toArray, List.set_cons_zero, List.set_cons_succ, i64_w, i32_w]
                  rfl
                refine pure_ (i := 5) (N := some 174) (v := ?_) (a' := ?_) #[false, true, true, false, true, true, false, false, false] rfl rfl (by kernel_rfl) (fun _ _ _ h => h) (Or.inl ⟨by rfl, ?_⟩) ?_ ?_
                rotate_left
                · intro w'
                  go_simp
                  with_reducible rfl
                rotate_left
                · simp only [Act.put, List.setIfInBounds_toArray, List.set_cons_zero, List.set_cons_succ, i64_w, i32_w]
                  rfl
                refine pure_ (i := 6) (N := some 175) (v := ?_) (a' := ?_) #[false, true, true, false, true, true, true, false, false] rfl rfl (by kernel_rfl) (fun _ _ _ h => h) (Or.inl ⟨by rfl, ?_⟩) ?_ ?_
                rotate_left
                · intro w'
                  go_simp
                  with_reducible rfl
                rotate_left
                · simp only [Act.put, List.setIfInBounds_toArray, List.set_cons_zero, List.set_cons_succ, i64_w, i32_w]
                  rfl
                refine take_ (i := 0) (N := some 169) (v := ?_) (a' := ?_) #[true, true, true, false, true, true, true, false, false] rfl rfl (by kernel_rfl) (fun _ _ _ h => h) (Or.inl ⟨by rfl, ?_⟩) hHeld ?_ ?_
                rotate_left
                · rintro w' ⟨s0, s1⟩
                  go_simp
                  with_reducible rfl
                rotate_left
                · simp only [Act.put, List.setIfInBounds_toArray, List.set_cons_zero, List.set_cons_succ, i64_w, i32_w]
                  rfl
                refine take_ (i := 7) (N := some 176) (v := ?_) (a' := ?_) #[true, true, true, false, true, true, true, true, false] rfl rfl (by kernel_rfl) (fun _ _ _ h => h) (Or.inl ⟨by rfl, ?_⟩) hHeld ?_ ?_
                rotate_left
                · rintro w' ⟨s0, s1⟩
                  go_simp
                  with_reducible rfl
                rotate_left
                · simp only [Act.put, List.setIfInBounds_toArray, List.set_cons_zero, List.set_cons_succ, i64_w, i32_w]
                  rfl
                refine one_ (i := 3) (N := some 172) #[true, true, true, true, true, true, true, true, false] rfl rfl (by kernel_rfl) (by decide) (fun K hK => ?_)
                refine goes_ Try.func18 (by kernel_rfl) rfl #[.agg #[.slice (some adn) L.length c3], .slice Ak kn.length ck, .int .i64 i] (by rfl) rfl rfl (by simp only [List.map_toArray, List.map_cons, List.map_nil]; rfl) ?_
                with_reducible refine (impl_Derives.calls k (some adn) c3 L Ak ck kn i bi _ (X62.out.below HDc.out).row (X62.out.below HDc.out).cap (Kd.C_below KN50.out (below_step HBc.out HDc.out)) HCK.out HDER.out).mono ?_
                rintro e w63 ⟨rfl, hb⟩
                refine ⟨_, rfl, ?_⟩
                have HB63 := Aside0.mk (below_step HDc.out hb)
                clear hb
                refine hK.out _ _ ⟨cell_keep HB63.out hcg62, cell_keep HB63.out xi2⟩ (fun hHeld => ?_)
                clear hK K
                refine norm_ (a' := ?_) ?_ ?_
                rotate_left
                · show Act.put _ (some 172) _ = _
                  simp only [Act.put, List.setIfInBounds_toArray, List.set_cons_zero, List.set_cons_succ, i64_w, i32_w]
                  rfl
                refine pure_ (i := 8) (N := some 177) (v := ?_) (a' := ?_) #[true, true, true, true, true, true, true, true, true] rfl rfl (by kernel_rfl) (fun _ _ _ h => h) (Or.inl ⟨by rfl, ?_⟩) ?_ ?_
                rotate_left
                · intro w'
                  go_simp
                  with_reducible rfl
                rotate_left
                · simp only [Act.put, List.setIfInBounds_toArray, List.set_cons_zero, List.set_cons_succ, i64_w, i32_w]
                  rfl
                refine done_ (by kernel_rfl) ?_
                go_wp2
                go_roundw
                case rel =>
                  have h0 := Hi0.out
                  have h1 := Hlt.out
                  have h5 := HLL.out
                  exact ⟨i + 1, by omega, by omega, by first | rfl | (simp only [Value.int.injEq, true_and]; exact w64 (by omega) (by omega)), ⟨below_step HBc.out HB63.out⟩⟩
                case measure => have hii := Hi0.out; have hij := Hlt.out; have hl3 := HLL.out; have hw := w64 (x := i + 1) (by omega) (by omega); simp only [intOf]; simp; try rw [hw]; omega
            · have hie : i = (L.length : Int) := by omega
              subst hie
              have p2 : decide ((L.length : Int) < (L.length : Int)) = false := decide_eq_false (by omega)
              have X60 := Aside0.mk (X50.out.below HBl.out)
              have hcg60 := X60.out.cell
              clear hlt hi0 hi1
              have HB60 := Aside0.mk (below_step HB50.out HBl.out)
              have HH60 := Aside0.mk (Kd.C_below HH50.out HBl.out)
              obtain ⟨A50, c50, e50, hc50, hC50⟩ := BA50.out
              subst e50
              have HC50 := Aside0.mk hc50
              have HA60 := Aside0.mk (Kd.C_below hC50 HBl.out)
              clear hc50 hC50
              go_upto_region 31 with (first
                | (go_at_call 19; ((with_reducible refine (spec_DrawReach.calls k A0 c0 l0 X ks _ (Kd.C_below HR0.out HB60.out) HC0.out H6.out).mono ?_); rintro e w70 ⟨v0, v1, rfl, ho, ho1, hb⟩); obtain ⟨A14, c14, rfl, _, _⟩ := Kd.R_reads ho; obtain ⟨Aks, cks, rfl, hck, hCk⟩ := Kd.R_reads ho1; have HCKS := Aside0.mk hck; have KS70 := Aside0.mk hCk; have HO70 := Aside0.mk ho; have HR70 := Aside0.mk hb; clear ho ho1 hb hck hCk)
                | ((with_reducible refine gate_dst (N := 14) rfl ?_); refine box_event ?hg (N := 14) ?hd (cs := #[.slice none 0 0]) (t := 26) ?hr ?_; (case hd => rfl); (case hg => rfl); (case hr => first | (go_simp; done) | (go_simp; rfl)); intro g14 hg1 w71 hbox hb; have BK14 := Aside0.mk hbox; have HC14 := Aside0.mk hb; have G14 := Aside0.mk hg1; clear hg1 hbox hb; have KB := Aside0.mk (AB.keepB (u := .slice A14 X.length c14) G14.out HC14.out); have X14 := Aside0.mk (AB.first HO70.out BK14.out G14.out HC14.out); have KS71 := Aside0.mk (Kd.C_below KS70.out KB.out); have HR71 := Aside0.mk (below_step HR70.out KB.out); have hca14 : w71.cell? ⟨g14, 0, none⟩ = some (.slice none 0 0) := (blk_cell BK14.out 0).trans rfl; have hfa14 := blk_frozen BK14.out 0; clear KB)
                | (go_at_call 20; ((with_reducible refine (spec_DrawDerives.calls k A0 c0 l0 Y ls m _ (Kd.C_below HR0.out (below_step HB60.out HR71.out)) HC0.out H10.out).mono ?_); rintro e w72 ⟨v0, v1, rfl, ho, ho1, hb⟩); obtain ⟨A16, c16, rfl, _, _⟩ := Kd.R_reads ho; obtain ⟨Als, cls, rfl, hck, hCk⟩ := Kd.R_reads ho1; have HCLS := Aside0.mk hck; have LS72 := Aside0.mk hCk; have HO72 := Aside0.mk ho; have HR72 := Aside0.mk (below_step HR71.out hb); have X14b := Aside0.mk (X14.out.below hb); have KS72 := Aside0.mk (Kd.C_below KS71.out hb); clear ho ho1 hb hck hCk)
                | ((with_reducible refine gate_dst (N := 16) rfl ?_); refine box_event ?hg (N := 16) ?hd (cs := #[.slice none 0 0]) (t := 26) ?hr ?_; (case hd => rfl); (case hg => rfl); (case hr => first | (go_simp; done) | (go_simp; rfl)); intro g16 hg1 w73 hbox hb; have BK16 := Aside0.mk hbox; have HC16 := Aside0.mk hb; have G16 := Aside0.mk hg1; clear hg1 hbox hb; have KB := Aside0.mk (AB.keepB (u := .slice A16 Y.length c16) G16.out HC16.out); have X16 := Aside0.mk (AB.first HO72.out BK16.out G16.out HC16.out); have X14c := Aside0.mk (X14b.out.below KB.out); have KS73 := Aside0.mk (Kd.C_below KS72.out KB.out); have LS73 := Aside0.mk (Kd.C_below LS72.out KB.out); have HR73 := Aside0.mk (below_step HR72.out KB.out); have hca16 : w73.cell? ⟨g16, 0, none⟩ = some (.slice none 0 0) := (blk_cell BK16.out 0).trans rfl; have hfa16 := blk_frozen BK16.out 0; clear KB))
              (try simp only [Act.put, List.setIfInBounds_toArray, List.set_cons_zero, List.set_cons_succ])
              clear hca14 hfa14 hca16 hfa16 BK14 BK16 HC14 HC16 HO70 HO72 G14 G16 hcg60
              generalize w73.setCell ⟨g16, 0, none⟩ (.slice A16 Y.length c16) = ws at X16 X14c KS73 LS73 HR73 ⊢
              have HD := Aside0.mk (below_step HR73.out (below_drew (Below.refl ws.heap.size ws)))
              have HDs := Aside0.mk (below_drew (Below.refl ws.heap.size ws))
              have X3d := Aside0.mk (X60.out.below HD.out)
              have X14d := Aside0.mk (X14c.out.below HDs.out)
              have X16d := Aside0.mk (X16.out.below HDs.out)
              have HHd := Aside0.mk (Kd.C_below HH60.out HD.out)
              have HAd := Aside0.mk (Kd.C_below HA60.out HD.out)
              have KSd := Aside0.mk (Kd.C_below KS73.out HDs.out)
              have LSd := Aside0.mk (Kd.C_below LS73.out HDs.out)
              have HBd := Aside0.mk (below_step HB60.out HD.out)
              have HQd := Aside0.mk (Below.refl ws.drew.heap.size ws.drew)
              have q1 : ((has.length : Int) == (L.length : Int)) = true := by rw [HHL.out]; simp
              have q2 : (bd == bd) = true := by simp
              refine start_ (n := 32) (S := fun w' => w'.cell? ⟨g3, 0, none⟩ = some (.slice A3 L.length c3) ∧ w'.cell? ⟨g14, 0, none⟩ = some (.slice A14 X.length c14) ∧ w'.cell? ⟨g16, 0, none⟩ = some (.slice A16 Y.length c16)) (ds := []) #[false, false, false, false, false, false, false, false, false, false, false, false, false, false, false, false, false, false, false, false, false, false, false, false, false, false, false, false, false, false, false, false] (by kernel_rfl) rfl rfl ⟨(X3d.out.below HQd.out).cell, (X14d.out.below HQd.out).cell, (X16d.out.below HQd.out).cell⟩ (fun hHeld => ?_)
              refine pure_ (i := 0) (N := some 189) (v := ?_) (a' := ?_) #[true, false, false, false, false, false, false, false, false, false, false, false, false, false, false, false, false, false, false, false, false, false, false, false, false, false, false, false, false, false, false, false] rfl rfl (by kernel_rfl) (fun _ _ _ h => h) (Or.inl ⟨by rfl, ?_⟩) ?_ ?_
              rotate_left
              · intro w'
                go_simp
                with_reducible rfl
              rotate_left
              · simp only [Act.put, List.setIfInBounds_toArray, List.set_cons_zero, List.set_cons_succ, i64_w, i32_w]
                rfl
              refine pure_ (i := 1) (N := some 190) (v := ?_) (a' := ?_) #[true, true, false, false, false, false, false, false, false, false, false, false, false, false, false, false, false, false, false, false, false, false, false, false, false, false, false, false, false, false, false, false] rfl rfl (by kernel_rfl) (fun _ _ _ h => h) (Or.inl ⟨by rfl, ?_⟩) ?_ ?_
              rotate_left
              · intro w'
                go_simp
                with_reducible rfl
              rotate_left
              · simp only [Act.put, List.setIfInBounds_toArray, List.set_cons_zero, List.set_cons_succ, i64_w, i32_w]
                rfl
              refine pure_ (i := 2) (N := some 191) (v := ?_) (a' := ?_) #[true, true, true, false, false, false, false, false, false, false, false, false, false, false, false, false, false, false, false, false, false, false, false, false, false, false, false, false, false, false, false, false] rfl rfl (by kernel_rfl) (fun _ _ _ h => h) (Or.inl ⟨by rfl, ?_⟩) ?_ ?_
              rotate_left
              · intro w'
                go_simp
                with_reducible rfl
              rotate_left
              · simp only [Act.put, List.setIfInBounds_toArray, List.set_cons_zero, List.set_cons_succ, i64_w, i32_w]
                rfl
              refine take_ (i := 3) (N := some 192) (v := ?_) (a' := ?_) #[true, true, true, true, false, false, false, false, false, false, false, false, false, false, false, false, false, false, false, false, false, false, false, false, false, false, false, false, false, false, false, false] rfl rfl (by kernel_rfl) (fun _ _ _ h => h) (Or.inl ⟨by rfl, ?_⟩) hHeld ?_ ?_
              rotate_left
              · rintro w' ⟨s0, s1, s2⟩
                go_simp
                with_reducible rfl
              rotate_left
              · simp only [Act.put, List.setIfInBounds_toArray, List.set_cons_zero, List.set_cons_succ, i64_w, i32_w]
                rfl
              refine pure_ (i := 4) (N := some 193) (v := ?_) (a' := ?_) #[true, true, true, true, true, false, false, false, false, false, false, false, false, false, false, false, false, false, false, false, false, false, false, false, false, false, false, false, false, false, false, false] rfl rfl (by kernel_rfl) (fun _ _ _ h => h) (Or.inl ⟨by rfl, ?_⟩) ?_ ?_
              rotate_left
              · intro w'
                go_simp
                with_reducible rfl
              rotate_left
              · simp only [Act.put, List.setIfInBounds_toArray, List.set_cons_zero, List.set_cons_succ, i64_w, i32_w]
                rfl
              refine pure_ (i := 5) (N := some 194) (v := ?_) (a' := ?_) #[true, true, true, true, true, true, false, false, false, false, false, false, false, false, false, false, false, false, false, false, false, false, false, false, false, false, false, false, false, false, false, false] rfl rfl (by kernel_rfl) (fun _ _ _ h => h) (Or.inl ⟨by rfl, ?_⟩) ?_ ?_
              rotate_left
              · intro w'
                go_simp
                with_reducible rfl
              rotate_left
              · simp only [Act.put, List.setIfInBounds_toArray, List.set_cons_zero, List.set_cons_succ, i64_w, i32_w]
                rfl
              refine pure_ (i := 6) (N := some 195) (v := ?_) (a' := ?_) #[true, true, true, true, true, true, true, false, false, false, false, false, false, false, false, false, false, false, false, false, false, false, false, false, false, false, false, false, false, false, false, false] rfl rfl (by kernel_rfl) (fun _ _ _ h => h) (Or.inl ⟨by rfl, ?_⟩) ?_ ?_
              rotate_left
              · intro w'
                go_simp
                with_reducible rfl
              rotate_left
              · simp only [Act.put, List.setIfInBounds_toArray, List.set_cons_zero, List.set_cons_succ, i64_w, i32_w]
                rfl
              refine pure_ (i := 7) (N := some 196) (v := ?_) (a' := ?_) #[true, true, true, true, true, true, true, true, false, false, false, false, false, false, false, false, false, false, false, false, false, false, false, false, false, false, false, false, false, false, false, false] rfl rfl (by kernel_rfl) (fun _ _ _ h => h) (Or.inl ⟨by rfl, ?_⟩) ?_ ?_
              rotate_left
              · intro w'
                go_simp
                with_reducible rfl
              rotate_left
              · simp only [Act.put, List.setIfInBounds_toArray, List.set_cons_zero, List.set_cons_succ, i64_w, i32_w]
                rfl
              refine pure_ (i := 8) (N := some 197) (v := ?_) (a' := ?_) #[true, true, true, true, true, true, true, true, true, false, false, false, false, false, false, false, false, false, false, false, false, false, false, false, false, false, false, false, false, false, false, false] rfl rfl (by kernel_rfl) (fun _ _ _ h => h) (Or.inl ⟨by rfl, ?_⟩) ?_ ?_
              rotate_left
              · intro w'
                go_simp
                with_reducible rfl
              rotate_left
              · simp only [Act.put, List.setIfInBounds_toArray, List.set_cons_zero, List.set_cons_succ, i64_w, i32_w]
                rfl
              refine one_ (i := 9) (N := some 198) #[true, true, true, true, true, true, true, true, true, true, false, false, false, false, false, false, false, false, false, false, false, false, false, false, false, false, false, false, false, false, false, false] rfl rfl (by kernel_rfl) (by decide) (fun K hK => ?_)
              refine goes_ Try.func21 (by kernel_rfl) rfl #[.slice A50 has.length c50, .slice Ah has.length chh] (by rfl) rfl rfl (by simp only [List.map_toArray, List.map_cons, List.map_nil]; rfl) ?_
              with_reducible refine (laws_sameBools.calls k A50 c50 has Ah chh has true _ (Kd.C_below HAd.out HQd.out) HC50.out (Kd.C_below HHd.out HQd.out) HCH.out H5.out).mono ?_
              rintro e wq0 ⟨rfl, hb⟩
              refine ⟨_, rfl, ?_⟩
              have HQ0 := Aside0.mk (below_step HQd.out hb.below)
              clear hb
              refine hK.out _ _ ⟨(X3d.out.below HQ0.out).cell, (X14d.out.below HQ0.out).cell, (X16d.out.below HQ0.out).cell⟩ (fun hHeld => ?_)
              clear hK K
              refine norm_ (a' := ?_) ?_ ?_
              rotate_left
              · show Act.put _ (some 198) _ = _
                simp only [Act.put, List.setIfInBounds_toArray, List.set_cons_zero, List.set_cons_succ, i64_w, i32_w]
                rfl
              refine pure_ (i := 10) (N := some 199) (v := ?_) (a' := ?_) #[true, true, true, true, true, true, true, true, true, true, true, false, false, false, false, false, false, false, false, false, false, false, false, false, false, false, false, false, false, false, false, false] rfl rfl (by kernel_rfl) (fun _ _ _ h => h) (Or.inl ⟨by rfl, ?_⟩) ?_ ?_
              rotate_left
              · intro w'
                go_simp
                with_reducible rfl
              rotate_left
              · simp only [Act.put, List.setIfInBounds_toArray, List.set_cons_zero, List.set_cons_succ, i64_w, i32_w]
                rfl
              refine pure_ (i := 11) (N := some 200) (v := ?_) (a' := ?_) #[true, true, true, true, true, true, true, true, true, true, true, true, false, false, false, false, false, false, false, false, false, false, false, false, false, false, false, false, false, false, false, false] rfl rfl (by kernel_rfl) (fun _ _ _ h => h) (Or.inl ⟨by rfl, ?_⟩) ?_ ?_
              rotate_left
              · intro w'
                go_simp
                with_reducible rfl
              rotate_left
              · simp only [Act.put, List.setIfInBounds_toArray, List.set_cons_zero, List.set_cons_succ, i64_w, i32_w]
                rfl
              refine pure_ (i := 13) (N := some 202) (v := ?_) (a' := ?_) #[true, true, true, true, true, true, true, true, true, true, true, true, false, true, false, false, false, false, false, false, false, false, false, false, false, false, false, false, false, false, false, false] rfl rfl (by kernel_rfl) (fun _ _ _ h => h) (Or.inl ⟨by rfl, ?_⟩) ?_ ?_
              rotate_left
              · intro w'
                go_simp
                with_reducible rfl
              rotate_left
              · simp only [Act.put, List.setIfInBounds_toArray, List.set_cons_zero, List.set_cons_succ, i64_w, i32_w]
                rfl
              refine pure_ (i := 16) (N := some 205) (v := ?_) (a' := ?_) #[true, true, true, true, true, true, true, true, true, true, true, true, false, true, false, false, true, false, false, false, false, false, false, false, false, false, false, false, false, false, false, false] rfl rfl (by kernel_rfl) (fun _ _ _ h => h) (Or.inl ⟨by rfl, ?_⟩) ?_ ?_
              rotate_left
              · intro w'
                go_simp
                with_reducible rfl
              rotate_left
              · simp only [Act.put, List.setIfInBounds_toArray, List.set_cons_zero, List.set_cons_succ, i64_w, i32_w]
                rfl
              refine take_ (i := 12) (N := some 201) (v := ?_) (a' := ?_) #[true, true, true, true, true, true, true, true, true, true, true, true, true, true, false, false, true, false, false, false, false, false, false, false, false, false, false, false, false, false, false, false] rfl rfl (by kernel_rfl) (fun _ _ _ h => h) (Or.inl ⟨by rfl, ?_⟩) hHeld ?_ ?_
              rotate_left
              · rintro w' ⟨s0, s1, s2⟩
                go_simp
                with_reducible rfl
              rotate_left
              · simp only [Act.put, List.setIfInBounds_toArray, List.set_cons_zero, List.set_cons_succ, i64_w, i32_w]
                rfl
              refine take_ (i := 15) (N := some 204) (v := ?_) (a' := ?_) #[true, true, true, true, true, true, true, true, true, true, true, true, true, true, false, true, true, false, false, false, false, false, false, false, false, false, false, false, false, false, false, false] rfl rfl (by kernel_rfl) (fun _ _ _ h => h) (Or.inl ⟨by rfl, ?_⟩) hHeld ?_ ?_
              rotate_left
              · rintro w' ⟨s0, s1, s2⟩
                go_simp
                with_reducible rfl
              rotate_left
              · simp only [Act.put, List.setIfInBounds_toArray, List.set_cons_zero, List.set_cons_succ, i64_w, i32_w]
                rfl
              refine one_ (i := 14) (N := some 203) #[true, true, true, true, true, true, true, true, true, true, true, true, true, true, true, true, true, false, false, false, false, false, false, false, false, false, false, false, false, false, false, false] rfl rfl (by kernel_rfl) (by decide) (fun K hK => ?_)
              refine goes_ Try.func16 (by kernel_rfl) rfl #[.agg #[.slice A14 X.length c14], .slice Aks ks.length cks] (by rfl) rfl rfl (by simp only [List.map_toArray, List.map_cons, List.map_nil]; rfl) ?_
              with_reducible refine (impl_Reach.calls k A14 c14 X Aks cks ks R1 _ (X14d.out.below HQ0.out).row (X14d.out.below HQ0.out).cap (Kd.C_below KSd.out HQ0.out) HCKS.out H7.out).mono ?_
              rintro e wq1 ⟨vr1, rfl, ho, hb⟩
              refine ⟨_, rfl, ?_⟩
              obtain ⟨Ar1, cr1, rfl, hcr, hCr⟩ := Kd.R_reads ho
              have RC1 := Aside0.mk hcr
              have RR1 := Aside0.mk hCr
              have HQ1 := Aside0.mk (below_step HQ0.out hb)
              clear hb ho hcr hCr
              refine hK.out _ _ ⟨(X3d.out.below HQ1.out).cell, (X14d.out.below HQ1.out).cell, (X16d.out.below HQ1.out).cell⟩ (fun hHeld => ?_)
              clear hK K
              refine norm_ (a' := ?_) ?_ ?_
              rotate_left
              · show Act.put _ (some 203) _ = _
                simp only [Act.put, List.setIfInBounds_toArray, List.set_cons_zero, List.set_cons_succ, i64_w, i32_w]
                rfl
              refine one_ (i := 17) (N := some 206) #[true, true, true, true, true, true, true, true, true, true, true, true, true, true, true, true, true, true, false, false, false, false, false, false, false, false, false, false, false, false, false, false] rfl rfl (by kernel_rfl) (by decide) (fun K hK => ?_)
              refine goes_ Try.func22 (by kernel_rfl) rfl #[.agg #[.slice A14 X.length c14], .slice Aks ks.length cks] (by rfl) rfl rfl (by simp only [List.map_toArray, List.map_cons, List.map_nil]; rfl) ?_
              with_reducible refine (spec_Reach.calls k A14 c14 X Aks cks ks R1 _ (X14d.out.below HQ1.out).row (X14d.out.below HQ1.out).cap (Kd.C_below KSd.out HQ1.out) HCKS.out H8.out).mono ?_
              rintro e wq2 ⟨vr2, rfl, ho, hb⟩
              refine ⟨_, rfl, ?_⟩
              obtain ⟨Ar2, cr2, rfl, hcr, hCr⟩ := Kd.R_reads ho
              have RC2 := Aside0.mk hcr
              have RR2 := Aside0.mk hCr
              have HQ2 := Aside0.mk (below_step HQ1.out hb)
              have RR1b := Aside0.mk (Kd.C_below RR1.out hb)
              clear ho hb hcr hCr
              refine hK.out _ _ ⟨(X3d.out.below HQ2.out).cell, (X14d.out.below HQ2.out).cell, (X16d.out.below HQ2.out).cell⟩ (fun hHeld => ?_)
              clear hK K
              refine norm_ (a' := ?_) ?_ ?_
              rotate_left
              · show Act.put _ (some 206) _ = _
                simp only [Act.put, List.setIfInBounds_toArray, List.set_cons_zero, List.set_cons_succ, i64_w, i32_w]
                rfl
              refine one_ (i := 18) (N := some 207) #[true, true, true, true, true, true, true, true, true, true, true, true, true, true, true, true, true, true, true, false, false, false, false, false, false, false, false, false, false, false, false, false] rfl rfl (by kernel_rfl) (by decide) (fun K hK => ?_)
              refine goes_ Try.func21 (by kernel_rfl) rfl #[.slice Ar1 R1.length cr1, .slice Ar2 R1.length cr2] (by rfl) rfl rfl (by simp only [List.map_toArray, List.map_cons, List.map_nil]; rfl) ?_
              with_reducible refine (laws_sameBools.calls k Ar1 cr1 R1 Ar2 cr2 R1 true _ RR1b.out RC1.out RR2.out RC2.out H9.out).mono ?_
              rintro e wq3 ⟨rfl, hb⟩
              refine ⟨_, rfl, ?_⟩
              have HQ3 := Aside0.mk (below_step HQ2.out hb.below)
              clear hb
              refine hK.out _ _ ⟨(X3d.out.below HQ3.out).cell, (X14d.out.below HQ3.out).cell, (X16d.out.below HQ3.out).cell⟩ (fun hHeld => ?_)
              clear hK K
              refine norm_ (a' := ?_) ?_ ?_
              rotate_left
              · show Act.put _ (some 207) _ = _
                simp only [Act.put, List.setIfInBounds_toArray, List.set_cons_zero, List.set_cons_succ, i64_w, i32_w]
                rfl
              refine pure_ (i := 19) (N := some 208) (v := ?_) (a' := ?_) #[true, true, true, true, true, true, true, true, true, true, true, true, true, true, true, true, true, true, true, true, false, false, false, false, false, false, false, false, false, false, false, false] rfl rfl (by kernel_rfl) (fun _ _ _ h => h) (Or.inl ⟨by rfl, ?_⟩) ?_ ?_
              rotate_left
              · intro w'
                go_simp
                with_reducible rfl
              rotate_left
              · simp only [Act.put, List.setIfInBounds_toArray, List.set_cons_zero, List.set_cons_succ, i64_w, i32_w]
                rfl
              refine pure_ (i := 20) (N := some 209) (v := ?_) (a' := ?_) #[true, true, true, true, true, true, true, true, true, true, true, true, true, true, true, true, true, true, true, true, true, false, false, false, false, false, false, false, false, false, false, false] rfl rfl (by kernel_rfl) (fun _ _ _ h => h) (Or.inl ⟨by rfl, ?_⟩) ?_ ?_
              rotate_left
              · intro w'
                go_simp
                with_reducible rfl
              rotate_left
              · simp only [Act.put, List.setIfInBounds_toArray, List.set_cons_zero, List.set_cons_succ, i64_w, i32_w]
                rfl
              refine pure_ (i := 22) (N := some 211) (v := ?_) (a' := ?_) #[true, true, true, true, true, true, true, true, true, true, true, true, true, true, true, true, true, true, true, true, true, false, true, false, false, false, false, false, false, false, false, false] rfl rfl (by kernel_rfl) (fun _ _ _ h => h) (Or.inl ⟨by rfl, ?_⟩) ?_ ?_
              rotate_left
              · intro w'
                go_simp
                with_reducible rfl
              rotate_left
              · simp only [Act.put, List.setIfInBounds_toArray, List.set_cons_zero, List.set_cons_succ, i64_w, i32_w]
                rfl
              refine pure_ (i := 23) (N := some 212) (v := ?_) (a' := ?_) #[true, true, true, true, true, true, true, true, true, true, true, true, true, true, true, true, true, true, true, true, true, false, true, true, false, false, false, false, false, false, false, false] rfl rfl (by kernel_rfl) (fun _ _ _ h => h) (Or.inl ⟨by rfl, ?_⟩) ?_ ?_
              rotate_left
              · intro w'
                go_simp
                with_reducible rfl
              rotate_left
              · simp only [Act.put, List.setIfInBounds_toArray, List.set_cons_zero, List.set_cons_succ, i64_w, i32_w]
                rfl
              refine pure_ (i := 26) (N := some 215) (v := ?_) (a' := ?_) #[true, true, true, true, true, true, true, true, true, true, true, true, true, true, true, true, true, true, true, true, true, false, true, true, false, false, true, false, false, false, false, false] rfl rfl (by kernel_rfl) (fun _ _ _ h => h) (Or.inl ⟨by rfl, ?_⟩) ?_ ?_
              rotate_left
              · intro w'
                go_simp
                with_reducible rfl
              rotate_left
              · simp only [Act.put, List.setIfInBounds_toArray, List.set_cons_zero, List.set_cons_succ, i64_w, i32_w]
                rfl
              refine pure_ (i := 27) (N := some 216) (v := ?_) (a' := ?_) #[true, true, true, true, true, true, true, true, true, true, true, true, true, true, true, true, true, true, true, true, true, false, true, true, false, false, true, true, false, false, false, false] rfl rfl (by kernel_rfl) (fun _ _ _ h => h) (Or.inl ⟨by rfl, ?_⟩) ?_ ?_
              rotate_left
              · intro w'
                go_simp
                with_reducible rfl
              rotate_left
              · simp only [Act.put, List.setIfInBounds_toArray, List.set_cons_zero, List.set_cons_succ, i64_w, i32_w]
                rfl
              refine take_ (i := 21) (N := some 210) (v := ?_) (a' := ?_) #[true, true, true, true, true, true, true, true, true, true, true, true, true, true, true, true, true, true, true, true, true, true, true, true, false, false, true, true, false, false, false, false] rfl rfl (by kernel_rfl) (fun _ _ _ h => h) (Or.inl ⟨by rfl, ?_⟩) hHeld ?_ ?_
              rotate_left
              · rintro w' ⟨s0, s1, s2⟩
                go_simp
                with_reducible rfl
              rotate_left
              · simp only [Act.put, List.setIfInBounds_toArray, List.set_cons_zero, List.set_cons_succ, i64_w, i32_w]
                rfl
              refine take_ (i := 25) (N := some 214) (v := ?_) (a' := ?_) #[true, true, true, true, true, true, true, true, true, true, true, true, true, true, true, true, true, true, true, true, true, true, true, true, false, true, true, true, false, false, false, false] rfl rfl (by kernel_rfl) (fun _ _ _ h => h) (Or.inl ⟨by rfl, ?_⟩) hHeld ?_ ?_
              rotate_left
              · rintro w' ⟨s0, s1, s2⟩
                go_simp
                with_reducible rfl
              rotate_left
              · simp only [Act.put, List.setIfInBounds_toArray, List.set_cons_zero, List.set_cons_succ, i64_w, i32_w]
                rfl
              refine one_ (i := 24) (N := some 213) #[true, true, true, true, true, true, true, true, true, true, true, true, true, true, true, true, true, true, true, true, true, true, true, true, true, true, true, true, false, false, false, false] rfl rfl (by kernel_rfl) (by decide) (fun K hK => ?_)
              refine goes_ Try.func18 (by kernel_rfl) rfl #[.agg #[.slice A16 Y.length c16], .slice Als ls.length cls, .int .i64 m] (by rfl) rfl rfl (by simp only [List.map_toArray, List.map_cons, List.map_nil]; rfl) ?_
              with_reducible refine (impl_Derives.calls k A16 c16 Y Als cls ls m bd _ (X16d.out.below HQ3.out).row (X16d.out.below HQ3.out).cap (Kd.C_below LSd.out HQ3.out) HCLS.out H11.out).mono ?_
              rintro e wq4 ⟨rfl, hb⟩
              refine ⟨_, rfl, ?_⟩
              have HQ4 := Aside0.mk (below_step HQ3.out hb)
              clear hb
              refine hK.out _ _ ⟨(X3d.out.below HQ4.out).cell, (X14d.out.below HQ4.out).cell, (X16d.out.below HQ4.out).cell⟩ (fun hHeld => ?_)
              clear hK K
              refine norm_ (a' := ?_) ?_ ?_
              rotate_left
              · show Act.put _ (some 213) _ = _
                simp only [Act.put, List.setIfInBounds_toArray, List.set_cons_zero, List.set_cons_succ, i64_w, i32_w]
                rfl
              refine one_ (i := 28) (N := some 217) #[true, true, true, true, true, true, true, true, true, true, true, true, true, true, true, true, true, true, true, true, true, true, true, true, true, true, true, true, true, false, false, false] rfl rfl (by kernel_rfl) (by decide) (fun K hK => ?_)
              refine goes_ Try.func23 (by kernel_rfl) rfl #[.agg #[.slice A16 Y.length c16], .slice Als ls.length cls, .int .i64 m] (by rfl) rfl rfl (by simp only [List.map_toArray, List.map_cons, List.map_nil]; rfl) ?_
              with_reducible refine (spec_Derives.calls k A16 c16 Y Als cls ls m bd _ (X16d.out.below HQ4.out).row (X16d.out.below HQ4.out).cap (Kd.C_below LSd.out HQ4.out) HCLS.out H12.out).mono ?_
              rintro e wq5 ⟨rfl, hb⟩
              refine ⟨_, rfl, ?_⟩
              have HQ5 := Aside0.mk (below_step HQ4.out hb)
              clear hb
              refine hK.out _ _ ⟨(X3d.out.below HQ5.out).cell, (X14d.out.below HQ5.out).cell, (X16d.out.below HQ5.out).cell⟩ (fun hHeld => ?_)
              clear hK K
              refine norm_ (a' := ?_) ?_ ?_
              rotate_left
              · show Act.put _ (some 217) _ = _
                simp only [Act.put, List.setIfInBounds_toArray, List.set_cons_zero, List.set_cons_succ, i64_w, i32_w]
                rfl
              refine pure_ (i := 29) (N := some 218) (v := ?_) (a' := ?_) #[true, true, true, true, true, true, true, true, true, true, true, true, true, true, true, true, true, true, true, true, true, true, true, true, true, true, true, true, true, true, false, false] rfl rfl (by kernel_rfl) (fun _ _ _ h => h) (Or.inl ⟨by rfl, ?_⟩) ?_ ?_
              rotate_left
              · intro w'
                go_simp
                with_reducible rfl
              rotate_left
              · simp only [Act.put, List.setIfInBounds_toArray, List.set_cons_zero, List.set_cons_succ, i64_w, i32_w]
                rfl
              refine pure_ (i := 30) (N := some 219) (v := ?_) (a' := ?_) #[true, true, true, true, true, true, true, true, true, true, true, true, true, true, true, true, true, true, true, true, true, true, true, true, true, true, true, true, true, true, true, false] rfl rfl (by kernel_rfl) (fun _ _ _ h => h) (Or.inl ⟨by rfl, ?_⟩) ?_ ?_
              rotate_left
              · intro w'
                go_simp
                with_reducible rfl
              rotate_left
              · simp only [Act.put, List.setIfInBounds_toArray, List.set_cons_zero, List.set_cons_succ, i64_w, i32_w]
                rfl
              refine pure_ (i := 31) (N := some 2) (v := ?_) (a' := ?_) #[true, true, true, true, true, true, true, true, true, true, true, true, true, true, true, true, true, true, true, true, true, true, true, true, true, true, true, true, true, true, true, true] rfl rfl (by kernel_rfl) (fun _ _ _ h => h) (Or.inl ⟨by rfl, ?_⟩) ?_ ?_
              rotate_left
              · intro w'
                go_simp
                with_reducible rfl
              rotate_left
              · simp only [Act.put, List.setIfInBounds_toArray, List.set_cons_zero, List.set_cons_succ, i64_w, i32_w]
                rfl
              refine done_ (by kernel_rfl) ?_
              go_wp2
              go_ret
              exact ⟨by first | rfl | simp, below_step HBd.out HQ5.out⟩

-- ALLX
theorem rd_mem {l : List Int} {r : Int} (h0 : 0 ≤ r) (h1 : r < l.length) : rd l r ∈ l := by
  obtain ⟨k, rfl⟩ := Int.eq_ofNat_of_zero_le h0
  rw [rd_nat (by omega)]
  exact List.getElem_mem _
/-- what can be had of what can be had -/
theorem der_trans {l : List S34} {S T : Nat → Prop} (h : ∀ k, k < l.length → T k → Der l S k) {i : Nat} (hd : Der l T i) : Der l S i := by
  induction hd with
  | seed h1 h2 => exact h _ h1 h2
  | atom h1 h2 h3 => exact .atom h1 h2 h3
  | one h1 h2 _ ih => exact .one h1 h2 ih
  | dh1 h1 h2 _ h4 _ ih1 ih2 => exact .dh1 h1 h2 ih1 h4 ih2
  | dh2 h1 h2 _ h4 _ ih1 ih2 => exact .dh2 h1 h2 ih1 h4 ih2
  | two h1 h2 _ _ ih1 ih2 => exact .two h1 h2 ih1 ih2
  | left h1 h2 _ ih => exact .left h1 h2 ih
  | right h1 h2 _ ih => exact .right h1 h2 ih
  | said h1 h2 _ ih => exact .said h1 h2 ih
  | opened h1 h2 _ _ ih1 ih2 => exact .opened h1 h2 ih1 ih2
theorem known_f {l : List Int} (L : List S34) (hL : 1 ≤ L.length ∧ L.length ≤ 13) : ∀ (d : Nat) (xs : List Int) (i h : Int), Cur l i → 5 - xs.length = d → (∀ x ∈ xs, 0 ≤ x ∧ x < (L.length : Int)) → xs.length ≤ 4 → ∃ ys, Ev (fun k => spec_DrawKnown.l0 k xs (xs.length : Int) l i h L) (L, ys) ∧ ys.length ≤ 4 ∧ ∀ x ∈ ys, 0 ≤ x ∧ x < (L.length : Int) := by
  intro d
  induction d with
  | zero => intro xs i h c hd hx hl; omega
  | succ d ih =>
    intro xs i h c hd hx hl
    obtain ⟨r, i1, h1, e1, c1, b1, _⟩ := Below_f h 5 (by omega) c
    have hr := b1 (by omega)
    by_cases hc : (xs.length : Int) < r
    · obtain ⟨q, i2, h2, e2, c2, b2, _⟩ := Below_f h1 (L.length : Int) (by omega) c1
      have hq := b2 (by omega)
      obtain ⟨ys, hy, hy1, hy2⟩ := ih (xs ++ [q]) i2 h2 c2 (by simp; omega) (by
        intro x hxm
        rcases List.mem_append.1 hxm with hm | hm
        · exact hx x hm
        · rw [List.mem_singleton.1 hm]; exact hq) (by simp; omega)
      refine ⟨ys, Ev.step (fun k => by rw [spec_DrawKnown.l0, e1, Option.bind_some, if_pos hc, e2, Option.bind_some, if_pos (by omega), w64 (x := (xs.length : Int) + 1) (by omega) (by omega)]) ?_, hy1, hy2⟩
      simpa using hy
    · exact ⟨xs, ev_end (fun k => by rw [spec_DrawKnown.l0, e1, Option.bind_some, if_neg hc]), hl, hx⟩
theorem DrawKnown_f (l : List Int) (hl : l.length ≤ 140737488351232) : ∃ (L : List S34) (ys : List Int), Ev (fun k => spec_DrawKnown.f k l) (L, ys) ∧ aok L = true ∧ 1 ≤ L.length ∧ L.length ≤ 12 ∧ ys.length ≤ 4 ∧ ∀ x ∈ ys, 0 ≤ x ∧ x < (L.length : Int) := by
  obtain ⟨h, hh⟩ := New_f l hl
  obtain ⟨ns, i2, h2, e2, c2, ha, n1, n2⟩ := Arena_f h (cur_zero hl)
  obtain ⟨ys, hy, y1, y2⟩ := known_f ns ⟨n1, by omega⟩ 5 [] i2 h2 c2 rfl (by simp) (by simp)
  exact ⟨ns, ys, Ev.bind hh (ev_now e2 hy), ha, n1, n2, y1, y2⟩
theorem knownAny_f {l : List Int} (L : List S34) (hL : 1 ≤ L.length ∧ L.length ≤ 13) : ∀ (d : Nat) (xs : List Int) (i h : Int), Cur l i → 5 - xs.length = d → xs.length ≤ 4 → ∃ ys, Ev (fun k => spec_l05Known.l0 k xs (xs.length : Int) l i h L) ys ∧ ys.1.length ≤ 4 := by
  intro d
  induction d with
  | zero => intro xs i h c hd hl; omega
  | succ d ih =>
    intro xs i h c hd hl
    obtain ⟨r, i1, h1, e1, c1, b1, _⟩ := Below_f h 5 (by omega) c
    have hr := b1 (by omega)
    by_cases hc : (xs.length : Int) < r
    · obtain ⟨q, i2, h2, e2, c2, _, _⟩ := Below_f h1 (wrap64 ((L.length : Int) + 1)) (by rw [w64 (by omega) (by omega)]; omega) c1
      obtain ⟨ys, hy, hy1⟩ := ih (xs ++ [q]) i2 h2 c2 (by simp; omega) (by simp; omega)
      refine ⟨ys, Ev.step (fun k => by rw [spec_l05Known.l0, e1, Option.bind_some, if_pos hc, e2, Option.bind_some, if_pos (by omega), w64 (x := (xs.length : Int) + 1) (by omega) (by omega)]) ?_, hy1⟩
      simpa using hy
    · exact ⟨(xs, i1, h1), ev_end (fun k => by rw [spec_l05Known.l0, e1, Option.bind_some, if_neg hc]), hl⟩
theorem DrawReach_f (l : List Int) (hl : l.length ≤ 140737488351232) : ∃ (X : List S34) (ks : List Int), Ev (fun k => spec_DrawReach.f k l) (X, ks) ∧ X.length ≤ 13 ∧ (∀ x ∈ X, smallN x) ∧ ks.length ≤ 4 := by
  obtain ⟨h, hh⟩ := New_f l hl
  obtain ⟨ns, i2, h2, e2, c2, n1, n2, hs⟩ := Any_f h (cur_zero hl)
  obtain ⟨ys, hy, y1⟩ := knownAny_f ns ⟨n1, n2⟩ 5 [] i2 h2 c2 rfl (by simp)
  have hf : Ev (fun k => spec_l05Known.f k l i2 h2 ns) ys := by unfold spec_l05Known.f; exact hy
  exact ⟨ns, ys.1, Ev.bind hh (ev_now e2 (Ev.bind hf (Ev.now _))), n2, hs, y1⟩
theorem DrawDerives_f (l : List Int) (hl : l.length ≤ 140737488351232) : ∃ (X : List S34) (ks : List Int) (m : Int), Ev (fun k => spec_DrawDerives.f k l) (X, ks, m) ∧ X.length ≤ 13 ∧ (∀ x ∈ X, smallN x) ∧ ks.length ≤ 4 := by
  obtain ⟨h, hh⟩ := New_f l hl
  obtain ⟨q, i2, h2, e2, c2, _, _⟩ := Below_f h 15 (by omega) (cur_zero hl)
  obtain ⟨X, ks, hX, x1, x2, x3⟩ := DrawReach_f l hl
  exact ⟨X, ks, wrap64 (q - 1), Ev.bind hh (ev_now e2 (Ev.bind hX (Ev.now _))), x1, x2, x3⟩
theorem both_reach (l : List S34) (hl : l.length ≤ 1048576) (hs : ∀ x ∈ l, smallN x) (ks : List Int) (hks : ks.length ≤ 1048576) : ∃ H, H.length ≤ l.length ∧ Ev (fun k => impl_Reach.f k l ks) H ∧ Ev (fun k => spec_Reach.f k l ks) H := by
  obtain ⟨H, h1, h2, h3⟩ := impl_Reach_f l (small_all hs) hl ks hks
  obtain ⟨G, g1, g2, g3⟩ := spec_Reach_f l hl ks hks
  cases hok : aok l with
  | true =>
    have e : G = H := isReach_eq (g1 hok) (h1 hok)
    subst e
    exact ⟨G, by rw [(h1 hok).len]; exact Nat.le_refl _, h3, g3⟩
  | false =>
    have e : G = H := by rw [g2 hok, h2 hok]
    subst e
    exact ⟨G, by rw [h2 hok]; simp, h3, g3⟩
def derOf (H : List Bool) (m : Int) : Bool := if 0 ≤ m ∧ m < (H.length : Int) then rdOf false H m else false
theorem impl_der {l : List S34} {ks : List Int} {H : List Bool} (hH : H.length ≤ 1048576) (h : Ev (fun k => impl_Reach.f k l ks) H) (m : Int) : Ev (fun k => impl_Derives.f k l ks m) (derOf H m) := by
  refine Ev.bind h ?_
  rw [w64 (by omega) (by omega)]
  simp only [impl_within_b, Option.bind_some]
  unfold derOf
  by_cases hm : 0 ≤ m ∧ m < (H.length : Int)
  · rw [if_pos hm]
    exact evT (by simp; omega) (evT hm.1 (evT hm.2 (Ev.now _)))
  · rw [if_neg hm]
    exact evF (by simp; omega) (Ev.now _)
theorem spec_der {l : List S34} {ks : List Int} {H : List Bool} (hH : H.length ≤ 1048576) (h : Ev (fun k => spec_Reach.f k l ks) H) (m : Int) : Ev (fun k => spec_Derives.f k l ks m) (derOf H m) := by
  refine Ev.bind h ?_
  rw [w64 (by omega) (by omega)]
  simp only [spec_In_b, Option.bind_some]
  unfold derOf
  by_cases hm : 0 ≤ m ∧ m < (H.length : Int)
  · rw [if_pos hm]
    exact evT (by simp; omega) (evT hm.1 (evT hm.2 (Ev.now _)))
  · rw [if_neg hm]
    exact evF (by simp; omega) (Ev.now _)
theorem bools_ev (L : List Bool) (hl : L.length ≤ 1048576) : ∀ (d i : Nat), L.length - i = d → i ≤ L.length → Ev (fun k => laws_sameBools.l0 k L L (i : Int)) true := by
  intro d
  induction d with
  | zero =>
    intro i hd hi
    exact ev_end (fun k => by rw [laws_sameBools.l0, if_neg (by omega)])
  | succ d ih =>
    intro i hd hi
    refine Ev.step (fun k => by rw [laws_sameBools.l0, if_pos (by omega), if_pos (by omega), if_pos (by omega), if_neg (by simp), w64 (x := (i : Int) + 1) (by omega) (by omega)]) ?_
    exact ih (i + 1) (by omega) (by omega)
theorem bools_f (L : List Bool) (hl : L.length ≤ 1048576) : Ev (fun k => laws_sameBools.f k L L) true := evT rfl (bools_ev L hl L.length 0 (by omega) (by omega))
theorem idxs_mem {H : List Bool} {n k : Nat} : (k : Int) ∈ idxs H n ↔ k < n ∧ has H k = true := by
  unfold idxs
  rw [List.mem_map]
  constructor
  · rintro ⟨j, hj, e⟩
    obtain ⟨h1, h2⟩ := List.mem_filter.1 hj
    obtain rfl : j = k := by omega
    rw [rdOf_has] at h2
    exact ⟨List.mem_range.1 h1, h2⟩
  · rintro ⟨h1, h2⟩
    exact ⟨k, List.mem_filter.2 ⟨List.mem_range.2 h1, by rw [rdOf_has]; exact h2⟩, rfl⟩
set_option maxRecDepth 100000 in
theorem walk (A0 : Option Addr) (c0 : Nat) (l0 : List Int) (w : World) (hr0 : Kd.C (Kd.int .u8) w A0 l0.length l0) (hc0 : l0.length ≤ c0) (hl : l0.length * 1 ≤ 140737488351232) :
    Calls Try.prog 3 #[.slice A0 l0.length c0] w fun e w' => e = .returned (.bool true) ∧ Below w.heap.size w w' := by
  by_cases hbig : (l0.length : Int) ≤ 1048576
  · obtain ⟨ps, ⟨K1, f1⟩, hlen, hall⟩ := Places_f l0 (by omega)
    obtain ⟨L, kn, ⟨K2, f2⟩, a0, n1, n2, m1, m2⟩ := DrawKnown_f l0 (by omega)
    have b0 := hall _ (rd_mem (r := 0) (by omega) (by omega))
    have hw : L.all wf1 = true := small_all (aok_small a0)
    obtain ⟨H, h1, _, hE⟩ := impl_Reach_f L hw (by omega) kn (by omega)
    have hR := h1 a0
    have hlenH := hR.len
    obtain ⟨M, g1, _, hM⟩ := impl_Reach_f L hw (by omega) (kn ++ [Int.tmod (rd ps 0) (L.length : Int)]) (by simp; omega)
    have hRM := g1 a0
    have hlenM := hRM.len
    obtain ⟨G, i1, _, hG⟩ := impl_Reach_f L hw (by omega) (idxs H H.length) (by have := idxs_length H H.length; omega)
    have hRG := i1 a0
    have eG : G = H := by
      refine isReach_eq hRG ⟨hlenH, fun i => ?_⟩
      rw [hR.iff i]
      constructor
      · intro hd
        exact .seed (der_lt (fun j hj => ((aok_parts a0).2 j hj).1) hd) (idxs_mem.2 ⟨by rw [hlenH]; exact der_lt (fun j hj => ((aok_parts a0).2 j hj).1) hd, (hR.iff i).2 hd⟩)
      · intro hd
        exact der_trans (fun k _ hk => (hR.iff k).1 (idxs_mem.1 hk).2) hd
    rw [eG] at hG
    obtain ⟨X, ks, ⟨K6, f6⟩, x1, x2, x3⟩ := DrawReach_f l0 (by omega)
    obtain ⟨Y, ls, m, ⟨K7, f7⟩, y1, y2, y3⟩ := DrawDerives_f l0 (by omega)
    obtain ⟨R1, r0, ⟨K8, f8⟩, ⟨K9, f9⟩⟩ := both_reach X (by omega) x2 ks (by omega)
    obtain ⟨R2, s0, e1, e2⟩ := both_reach Y (by omega) y2 ls (by omega)
    obtain ⟨K10, f10⟩ := impl_der (by omega) e1 m
    obtain ⟨K11, f11⟩ := spec_der (by omega) e2 m
    obtain ⟨K12, f12⟩ := bools_f H (by omega)
    obtain ⟨K13, f13⟩ := bools_f R1 (by omega)
    obtain ⟨K3, f3⟩ := hE
    obtain ⟨K4, f4⟩ := hM
    obtain ⟨K5, f5⟩ := hG
    -- each node's deriving, with one bound on the rounds
    obtain ⟨K14, f14⟩ : ∃ K, ∀ k, K ≤ k → ∀ i : Int, 0 ≤ i → i < (L.length : Int) → impl_Derives.f k L kn i = some (rdOf false H i) := by
      refine ⟨K3, fun k hk i hi0 hi1 => ?_⟩
      have f3k : impl_Reach.f k L kn = some H := f3 k hk
      unfold impl_Derives.f
      rw [f3k, Option.bind_some, w64 (by omega) (by omega), impl_within_b, Option.bind_some, if_pos (by simp; omega), if_pos hi0, if_pos (by omega)]
    have hkn : ∀ i : Int, 0 ≤ i → i < (kn.length : Int) → (0 ≤ rd kn i ∧ rd kn i < (H.length : Int)) ∧ rdOf false H (rd kn i) = true := by
      intro i hi0 hi1
      have hm := rd_mem hi0 hi1
      have hb := m2 _ hm
      refine ⟨⟨hb.1, by omega⟩, ?_⟩
      obtain ⟨q, hq⟩ := Int.eq_ofNat_of_zero_le hb.1
      rw [hq] at hm hb ⊢
      rw [rdOf_has]
      exact (hR.iff q).2 (.seed (by omega) hm)
    have hsub : ∀ i : Int, 0 ≤ i → i < (H.length : Int) → rdOf false H i = true → rdOf false M i = true := by
      intro i hi0 hi1 hh
      obtain ⟨q, rfl⟩ := Int.eq_ofNat_of_zero_le hi0
      rw [rdOf_has] at hh ⊢
      exact (hRM.iff q).2 (der_trans (fun k hk hs => .seed hk (List.mem_append_left _ hs)) ((hR.iff q).1 hh))
    have hpl : ∀ i : Int, 0 ≤ i → i < (L.length : Int) → (0 ≤ (rd_T34 L i).f2 ∧ (rd_T34 L i).f2 < (H.length : Int)) ∧ (0 ≤ (rd_T34 L i).f3 ∧ (rd_T34 L i).f3 < (H.length : Int)) ∧ lawN (rdOf false H i) (rdOf false H (rd_T34 L i).f2) (rdOf false H (rd_T34 L i).f3) ((rd_T34 L i).f0 == 5) ((rd_T34 L i).f0 == 2) ((rd_T34 L i).f0 == 3) = false := by
      intro i hi0 hi1
      obtain ⟨q, rfl⟩ := Int.eq_ofNat_of_zero_le hi0
      have hq : q < L.length := by omega
      obtain ⟨p0, p1, p2, p3, p4⟩ := node_parts ((aok_parts a0).2 q hq).1
      have hn : rd_T34 L (q : Int) = nodeOf L q := rfl
      rw [hn]
      have c2 : 0 ≤ (nodeOf L q).f2 ∧ (nodeOf L q).f2 < (L.length : Int) := by
        by_cases k1 : (nodeOf L q).f0 = 1
        · have := p1 k1; omega
        · have := p2 k1; omega
      have c3 : 0 ≤ (nodeOf L q).f3 ∧ (nodeOf L q).f3 < (L.length : Int) := by
        by_cases k1 : (nodeOf L q).f0 = 1
        · have := p1 k1; omega
        · by_cases k3 : (nodeOf L q).f0 = 3 ∨ (nodeOf L q).f0 = 6
          · have := p3 k3; omega
          · have := p4 k1 k3; omega
      refine ⟨⟨c2.1, by omega⟩, ⟨c3.1, by omega⟩, ?_⟩
      have eA : (nodeOf L q).f2 = ((pA L q : Nat) : Int) := by unfold pA; omega
      have eB : (nodeOf L q).f3 = ((pB L q : Nat) : Int) := by unfold pB; omega
      rw [eA, eB, rdOf_has, rdOf_has, rdOf_has]
      have t5 : (nodeOf L q).f0 = 5 → has H q = true → has H (pA L q) = true → has H (pB L q) = true := fun k h h' => (hR.iff _).2 (.opened hq k ((hR.iff _).1 h) ((hR.iff _).1 h'))
      have t2 : (nodeOf L q).f0 = 2 → has H q = true → has H (pA L q) = true ∧ has H (pB L q) = true := fun k h => ⟨(hR.iff _).2 (.left hq k ((hR.iff _).1 h)), (hR.iff _).2 (.right hq k ((hR.iff _).1 h))⟩
      have t3 : (nodeOf L q).f0 = 3 → has H (pA L q) = true → has H q = true := fun k h => (hR.iff _).2 (.one hq (.inl k) ((hR.iff _).1 h))
      generalize has H q = bi at *
      generalize has H (pA L q) = ba at *
      generalize has H (pB L q) = bb at *
      generalize (nodeOf L q).f0 = kk at *
      unfold lawN
      by_cases k5 : kk = 5
      · have := t5 k5
        subst k5
        cases bi <;> cases ba <;> cases bb <;> simp_all
      · by_cases k2 : kk = 2
        · have := t2 k2
          subst k2
          cases bi <;> cases ba <;> cases bb <;> simp_all
        · by_cases k3 : kk = 3
          · have := t3 k3
            subst k3
            cases bi <;> cases ba <;> cases bb <;> simp_all
          · have z5 : (kk == 5) = false := by simpa using k5
            have z2 : (kk == 2) = false := by simpa using k2
            have z3 : (kk == 3) = false := by simpa using k3
            rw [z5, z2, z3]
            cases bi <;> cases ba <;> cases bb <;> rfl
    have hkk : ∀ j, j ≤ K1 + K2 + K3 + K4 + K5 + K6 + K7 + K8 + K9 + K10 + K11 + K12 + K13 + K14 → True := fun _ _ => trivial
    exact law_reaches A0 c0 l0 (K1 + K2 + K3 + K4 + K5 + K6 + K7 + K8 + K9 + K10 + K11 + K12 + K13 + K14) L X Y kn ps ks ls H M R1 _ _ m (derOf R2 m) w hr0 hc0 hbig (f2 _ (by omega)) (f3 _ (by omega)) (f1 _ (by omega)) hlen rfl rfl (by omega) (f4 _ (by omega)) (by omega) (by omega) hlenH hlenM hsub (f5 _ (by omega)) hkn
      (fun i hi0 hi1 => ⟨(hpl i hi0 hi1).1, (hpl i hi0 hi1).2.1, (hpl i hi0 hi1).2.2, f14 _ (by omega) i hi0 hi1⟩) (f12 _ (by omega)) (f6 _ (by omega)) (f8 _ (by omega)) (f9 _ (by omega)) (f13 _ (by omega)) (f7 _ (by omega)) (f10 _ (by omega)) (f11 _ (by omega))
  · have HBIG : Aside0 (laws_big.f l0 = some true) := ⟨by unfold laws_big.f; rw [decide_eq_true (by omega)]⟩
    have HR0 := Aside0.mk hr0
    have HC0 := Aside0.mk hc0
    clear hr0 hc0 hbig hl
    go_enter Try.func3, Try.ntmps3
    go_wp2_with (go_at_call 14; ((with_reducible refine (laws_big.calls A0 c0 l0 true _ HR0.out HC0.out HBIG.out).mono ?_); rintro e w2 ⟨rfl, hd⟩); have HB2 := Aside0.mk hd.below; clear hd)
    go_ret
    exact ⟨rfl, HB2.out⟩

end Go.Proofs.Ytkckdibalopagaa.Pure
