/- Proved: at every draw, secrets of the two sides and of two epochs differ, and what can be had of which is as the law says; no condition. -/
import Derived.Test.YtkckdibalopagaaSFnSecretsx0
import Derived.Test.YtkckdibalopagaaSFnSecretsx1
import Derived.Test.YtkckdibalopagaaSFnSecretsx2
import Derived.Test.YtkckdibalopagaaSFnSecretsx3
import Derived.Test.YtkckdibalopagaaSFnSecretsx4
import Derived.Test.YtkckdibalopagaaSFnSecretsx5
import Derived.Test.YtkckdibalopagaaSFnSecretsx6
import Derived.Test.YtkckdibalopagaaSFnSecretsx7
import Derived.Test.YtkckdibalopagaaSFnSecretsx8
import Derived.Test.YtkckdibalopagaaSFnSecretsx9
import Derived.Test.YtkckdibalopagaaBase
namespace Go.Proofs.Ytkckdibalopagaa.Pure
open Go.RowKit Go.Proofs.Ytkckdibalopagaa.SFnSecrets Go.Proofs.Ytkckdibalopagaa.Base Go.Proofs.YtkckdibalopagaaW.PrintWords Go.Proofs.YtkckdibalopagaaW.PrintLast Go.Proofs.YtkckdibalopagaaW.PrintMore
open Go.Proofs.Ytkckdibalopagaa.SFnSecrets.Hand
set_option linter.unusedVariables false
set_option linter.unusedSimpArgs false

attribute [local go_sem] max2_int min2_int max_two min_two max_three min_three max_four min_four
theorem rd_nat {xs : List Int} {i : Nat} (h : i < xs.length) : rd xs (i : Int) = xs[i] := by
  unfold rd
  rw [Int.toNat_natCast, List.getD_eq_getElem?_getD, List.getElem?_eq_getElem h]
  rfl
theorem rdOf_nat {xs : List Bool} {i : Nat} (h : i < xs.length) : rdOf false xs (i : Int) = xs[i] := by
  unfold rdOf
  rw [Int.toNat_natCast, List.getD_eq_getElem?_getD, List.getElem?_eq_getElem h]
  rfl

/-! a right node's parts -/
def oneKind (k : Int) : Bool := decide (k = 3 ∨ k = 6)
theorem node_parts {f0 f1 f2 f3 k : Int} (h : nodeB f0 f1 f2 f3 k = true) : (1 ≤ f0 ∧ f0 ≤ 9) ∧ (f0 = 1 → 0 ≤ f1 ∧ f1 ≤ 999999 ∧ f2 = 0 ∧ f3 = 0) ∧ (f0 ≠ 1 → f1 = 0 ∧ 0 ≤ f2 ∧ f2 < k) ∧ ((f0 = 3 ∨ f0 = 6) → f3 = 0) ∧ (f0 ≠ 1 → ¬ (f0 = 3 ∨ f0 = 6) → 0 ≤ f3 ∧ f3 < k) := by
  unfold nodeB at h
  by_cases h1 : f0 = 1
  · rw [if_pos h1] at h
    simp only [Bool.and_eq_true, decide_eq_true_eq] at h
    omega
  · rw [if_neg h1] at h
    by_cases h3 : f0 = 3 ∨ f0 = 6
    · rw [if_pos h3] at h
      simp only [Bool.and_eq_true, decide_eq_true_eq] at h
      omega
    · rw [if_neg h3] at h
      simp only [Bool.and_eq_true, decide_eq_true_eq] at h
      omega
/-- the node's parts, as places -/
theorem right_parts {l : List S34} {i : Nat} (h : rightAt l i = true) : (1 ≤ (nodeOf l i).f0 ∧ (nodeOf l i).f0 ≤ 9) ∧ ((nodeOf l i).f0 = 1 → 0 ≤ (nodeOf l i).f1 ∧ (nodeOf l i).f1 ≤ 999999) ∧
    ((nodeOf l i).f0 ≠ 1 → ∃ a : Nat, (nodeOf l i).f2 = (a : Int) ∧ a < i) ∧ ((nodeOf l i).f0 ≠ 1 → oneKind (nodeOf l i).f0 = false → ∃ b : Nat, (nodeOf l i).f3 = (b : Int) ∧ b < i) := by
  obtain ⟨h0, h1, h2, _, h4⟩ := node_parts h
  refine ⟨h0, fun e => ⟨(h1 e).1, (h1 e).2.1⟩, fun e => ?_, fun e e2 => ?_⟩
  · obtain ⟨a, ha⟩ := Int.eq_ofNat_of_zero_le (h2 e).2.1
    exact ⟨a, ha, by have := (h2 e).2.2; omega⟩
  · have := h4 e (by simpa [oneKind] using e2)
    obtain ⟨b, hb⟩ := Int.eq_ofNat_of_zero_le this.1
    exact ⟨b, hb, by omega⟩

theorem spec_AOk_ev (l : List S34) (hl : l.length ≤ 3000) : ∀ (d i : Nat), l.length - i = d → i ≤ l.length → (∀ j, j < i → rightAt l j = true ∧ dupAt l j = false) → Ev (fun k => spec_ArenaOk.l0 k (i : Int) l) (aok l) := by
  intro d
  induction d with
  | zero =>
    intro i hd hi hall
    rw [aok_true hl (fun j hj => hall j (by omega))]
    exact ev_end (fun k => by rw [spec_ArenaOk.l0, if_neg (by omega)])
  | succ d ih =>
    intro i hd hi hall
    have hlt : i < l.length := by omega
    refine Ev.step (fun k => by rw [spec_ArenaOk.l0, if_pos (by omega), if_pos (by omega), w64 (x := (i : Int) + 1) (by omega) (by omega)]) ?_
    refine Ev.bind (spec_l03Node_f _ _ _ _ (i : Int) (by omega)) ?_
    by_cases hr : rightAt l i = true
    · refine evT hr (Ev.bind (spec_At_f l (by omega) (nodeOf l i)) ?_)
      by_cases hd2 : dupAt l i = false
      · refine evT ((atV_self hlt).2 hd2) ?_
        refine ih (i + 1) (by omega) (by omega) (fun j hj => ?_)
        by_cases e : j = i
        · rw [e]; exact ⟨hr, hd2⟩
        · exact hall j (by omega)
      · refine ev_cast (evF (fun h => hd2 ((atV_self hlt).1 h)) (Ev.now _)) ?_
        rw [aok_false hlt (.inr (by simpa using hd2))]
    · refine ev_cast (evF hr (Ev.now _)) ?_
      rw [aok_false hlt (.inl (by simpa using hr))]
theorem spec_ArenaOk_f (l : List S34) (hl : l.length ≤ 1048576) : Ev (fun k => spec_ArenaOk.f k l) (aok l) := by
  by_cases h : (l.length : Int) > 3000
  · refine ev_cast (evT h (Ev.now _)) ?_
    rw [aok_big (by omega)]
  · exact evF h (spec_AOk_ev l (by omega) l.length 0 (by omega) (by omega) (fun j hj => by omega))

/-! what can be had -/
def has (H : List Bool) (i : Nat) : Bool := H.getD i false
theorem rdOf_has (H : List Bool) (i : Nat) : rdOf false H (i : Int) = has H i := by
  unfold rdOf has
  rw [Int.toNat_natCast]
theorem has_set (H : List Bool) (i j : Nat) (hi : i < H.length) : has (H.set i true) j = (decide (j = i) || has H j) := by
  unfold has
  rw [List.getD_eq_getElem?_getD, List.getD_eq_getElem?_getD, List.getElem?_set]
  by_cases h : i = j
  · subst h
    simp [hi]
  · rw [if_neg h]
    have : ¬ j = i := fun e => h e.symm
    simp [this]
theorem has_lt {H : List Bool} {i : Nat} (h : has H i = true) : i < H.length := by
  by_cases hi : i < H.length
  · exact hi
  · unfold has at h
    rw [List.getD_eq_getElem?_getD, List.getElem?_eq_none (by omega)] at h
    cases h
theorem list_has {H G : List Bool} (hl : H.length = G.length) (h : ∀ i, i < H.length → (has H i = true ↔ has G i = true)) : H = G := by
  apply List.ext_getElem hl
  intro i h1 h2
  have := h i h1
  unfold has at this
  rw [List.getD_eq_getElem?_getD, List.getD_eq_getElem?_getD, List.getElem?_eq_getElem h1, List.getElem?_eq_getElem h2] at this
  simp only [Option.getD_some] at this
  cases e1 : H[i] <;> cases e2 : G[i] <;> simp_all
/-- how many are had -/
def cnt (H : List Bool) : Nat := H.count true
theorem cnt_le (H : List Bool) : cnt H ≤ H.length := List.count_le_length
theorem cnt_set {H : List Bool} {i : Nat} (hi : i < H.length) (h : has H i = false) : cnt (H.set i true) = cnt H + 1 := by
  unfold cnt
  rw [List.count_set hi]
  unfold has at h
  rw [List.getD_eq_getElem?_getD, List.getElem?_eq_getElem hi] at h
  simp only [Option.getD_some] at h
  rw [h]
  simp
/-- kind, and parts, of the node at a place -/
def kd (l : List S34) (i : Nat) : Int := (nodeOf l i).f0
def pA (l : List S34) (i : Nat) : Nat := (nodeOf l i).f2.toNat
def pB (l : List S34) (i : Nat) : Nat := (nodeOf l i).f3.toNat
def IsPub (l : List S34) (a p : Nat) : Prop := p < l.length ∧ kd l p = 6 ∧ pA l p = a
def twoKind (k : Int) : Prop := k ≠ 1 ∧ k ≠ 3 ∧ k ≠ 6 ∧ k ≠ 7
inductive Der (l : List S34) (S : Nat → Prop) : Nat → Prop
  | seed {k : Nat} : k < l.length → S k → Der l S k
  | atom {k : Nat} : k < l.length → kd l k = 1 → (nodeOf l k).f1 < 1000 → Der l S k
  | one {k : Nat} : k < l.length → (kd l k = 3 ∨ kd l k = 6) → Der l S (pA l k) → Der l S k
  | dh1 {k p : Nat} : k < l.length → kd l k = 7 → Der l S (pA l k) → IsPub l (pB l k) p → Der l S p → Der l S k
  | dh2 {k p : Nat} : k < l.length → kd l k = 7 → Der l S (pB l k) → IsPub l (pA l k) p → Der l S p → Der l S k
  | two {k : Nat} : k < l.length → twoKind (kd l k) → Der l S (pA l k) → Der l S (pB l k) → Der l S k
  | left {k : Nat} : k < l.length → kd l k = 2 → Der l S k → Der l S (pA l k)
  | right {k : Nat} : k < l.length → kd l k = 2 → Der l S k → Der l S (pB l k)
  | said {k : Nat} : k < l.length → kd l k = 8 → Der l S k → Der l S (pB l k)
  | opened {k : Nat} : k < l.length → kd l k = 5 → Der l S k → Der l S (pA l k) → Der l S (pB l k)
/-- a node can be made of what is had -/
def Made (l : List S34) (H : List Bool) (k : Nat) : Prop :=
  (kd l k = 1 ∧ (nodeOf l k).f1 < 1000) ∨ ((kd l k = 3 ∨ kd l k = 6) ∧ has H (pA l k) = true) ∨
  (kd l k = 7 ∧ ((has H (pA l k) = true ∧ ∃ p, IsPub l (pB l k) p ∧ has H p = true) ∨ (has H (pB l k) = true ∧ ∃ p, IsPub l (pA l k) p ∧ has H p = true))) ∨
  (twoKind (kd l k) ∧ has H (pA l k) = true ∧ has H (pB l k) = true)
/-- what comes out of a node that is had -/
def Outs (l : List S34) (H : List Bool) (k o : Nat) : Prop :=
  (kd l k = 2 ∧ (o = pA l k ∨ o = pB l k)) ∨ (kd l k = 8 ∧ o = pB l k) ∨ (kd l k = 5 ∧ has H (pA l k) = true ∧ o = pB l k)
def Stable (l : List S34) (H : List Bool) (k : Nat) : Prop := (Made l H k → has H k = true) ∧ (has H k = true → ∀ o, Outs l H k o → has H o = true)
structure Inv (l : List S34) (S : Nat → Prop) (H : List Bool) : Prop where
  len : H.length = l.length
  sound : ∀ i, has H i = true → Der l S i
theorem Inv.set {l : List S34} {S : Nat → Prop} {H : List Bool} (h : Inv l S H) {k : Nat} (hk : k < l.length) (hd : Der l S k) : Inv l S (H.set k true) := by
  refine ⟨by rw [List.length_set]; exact h.len, fun i hi => ?_⟩
  rw [has_set _ _ _ (by rw [h.len]; exact hk)] at hi
  simp only [Bool.or_eq_true, decide_eq_true_eq] at hi
  rcases hi with hi | hi
  · rw [hi]; exact hd
  · exact h.sound i hi
theorem Made.der {l : List S34} {S : Nat → Prop} {H : List Bool} (h : Inv l S H) {k : Nat} (hk : k < l.length) (hm : Made l H k) : Der l S k := by
  rcases hm with hm | hm | hm | hm
  · exact .atom hk hm.1 hm.2
  · exact .one hk hm.1 (h.sound _ hm.2)
  · rcases hm.2 with ⟨h1, p, hp, h2⟩ | ⟨h1, p, hp, h2⟩
    · exact .dh1 hk hm.1 (h.sound _ h1) hp (h.sound _ h2)
    · exact .dh2 hk hm.1 (h.sound _ h1) hp (h.sound _ h2)
  · exact .two hk hm.1 (h.sound _ hm.2.1) (h.sound _ hm.2.2)
theorem Outs.der {l : List S34} {S : Nat → Prop} {H : List Bool} (h : Inv l S H) {k o : Nat} (hk : k < l.length) (hh : has H k = true) (ho : Outs l H k o) : Der l S o := by
  rcases ho with ⟨h1, h2 | h2⟩ | ⟨h1, h2⟩ | ⟨h1, h2, h3⟩
  · rw [h2]; exact .left hk h1 (h.sound _ hh)
  · rw [h2]; exact .right hk h1 (h.sound _ hh)
  · rw [h2]; exact .said hk h1 (h.sound _ hh)
  · rw [h3]; exact .opened hk h1 (h.sound _ hh) (h.sound _ h2)
/-- what is closed, and has what was known, has all that can be had -/
theorem der_has {l : List S34} {S : Nat → Prop} {H : List Bool} (hs : ∀ k, k < l.length → S k → has H k = true) (hc : ∀ k, k < l.length → Stable l H k) {k : Nat} (h : Der l S k) : has H k = true := by
  induction h with
  | seed h1 h2 => exact hs _ h1 h2
  | atom h1 h2 h3 => exact (hc _ h1).1 (.inl ⟨h2, h3⟩)
  | one h1 h2 _ ih => exact (hc _ h1).1 (.inr (.inl ⟨h2, ih⟩))
  | dh1 h1 h2 _ h4 _ ih1 ih2 => exact (hc _ h1).1 (.inr (.inr (.inl ⟨h2, .inl ⟨ih1, _, h4, ih2⟩⟩)))
  | dh2 h1 h2 _ h4 _ ih1 ih2 => exact (hc _ h1).1 (.inr (.inr (.inl ⟨h2, .inr ⟨ih1, _, h4, ih2⟩⟩)))
  | two h1 h2 _ _ ih1 ih2 => exact (hc _ h1).1 (.inr (.inr (.inr ⟨h2, ih1, ih2⟩)))
  | left h1 h2 _ ih => exact (hc _ h1).2 ih _ (.inl ⟨h2, .inl rfl⟩)
  | right h1 h2 _ ih => exact (hc _ h1).2 ih _ (.inl ⟨h2, .inr rfl⟩)
  | said h1 h2 _ ih => exact (hc _ h1).2 ih _ (.inr (.inl ⟨h2, rfl⟩))
  | opened h1 h2 _ _ ih1 ih2 => exact (hc _ h1).2 ih1 _ (.inr (.inr ⟨h2, ih2, rfl⟩))
/-- the list of what can be had -/
structure IsReach (l : List S34) (S : Nat → Prop) (H : List Bool) : Prop where
  len : H.length = l.length
  iff : ∀ i, has H i = true ↔ Der l S i
theorem der_lt {l : List S34} {S : Nat → Prop} (hr : ∀ j, j < l.length → rightAt l j = true) {k : Nat} (h : Der l S k) : k < l.length := by
  induction h with
  | seed h1 _ => exact h1
  | atom h1 _ _ => exact h1
  | one h1 _ _ _ => exact h1
  | dh1 h1 _ _ _ _ _ _ => exact h1
  | dh2 h1 _ _ _ _ _ _ => exact h1
  | two h1 _ _ _ _ _ => exact h1
  | @left k h1 h2 _ _ =>
    obtain ⟨a, ha, hak⟩ := (right_parts (hr k h1)).2.2.1 (by unfold kd at h2; omega)
    unfold pA; rw [ha]; omega
  | @right k h1 h2 _ _ =>
    obtain ⟨a, ha, hak⟩ := (right_parts (hr k h1)).2.2.2 (by unfold kd at h2; omega) (by unfold kd at h2; simp [oneKind, h2])
    unfold pB; rw [ha]; omega
  | @said k h1 h2 _ _ =>
    obtain ⟨a, ha, hak⟩ := (right_parts (hr k h1)).2.2.2 (by unfold kd at h2; omega) (by unfold kd at h2; simp [oneKind, h2])
    unfold pB; rw [ha]; omega
  | @opened k h1 h2 _ _ _ _ =>
    obtain ⟨a, ha, hak⟩ := (right_parts (hr k h1)).2.2.2 (by unfold kd at h2; omega) (by unfold kd at h2; simp [oneKind, h2])
    unfold pB; rw [ha]; omega
theorem isReach_of {l : List S34} {S : Nat → Prop} {H : List Bool} (h : Inv l S H) (hs : ∀ k, k < l.length → S k → has H k = true) (hc : ∀ k, k < l.length → Stable l H k) : IsReach l S H :=
  ⟨h.len, fun i => ⟨h.sound i, der_has hs hc⟩⟩
theorem isReach_eq {l : List S34} {S : Nat → Prop} {H G : List Bool} (h : IsReach l S H) (g : IsReach l S G) : H = G :=
  list_has (h.len.trans g.len.symm) (fun i _ => (h.iff i).trans (g.iff i).symm)
/-- a pub is there once -/
theorem pub_once {l : List S34} (hok : aok l = true) {a p q : Nat} (hp : IsPub l a p) (hq : IsPub l a q) : p = q := by
  obtain ⟨h3, hall⟩ := aok_parts hok
  have key : ∀ {p q : Nat}, IsPub l a p → IsPub l a q → ¬ p < q := by
    intro p q hp hq hlt
    have hd := (hall q hq.1).2
    have np := node_parts (hall p hp.1).1
    have nq := node_parts (hall q hq.1).1
    have kp := hp.2.1
    have kq := hq.2.1
    have ap := hp.2.2
    have aq := hq.2.2
    unfold kd at kp kq
    unfold pA at ap aq
    have e : nodeOf l p = nodeOf l q := by
      have p1 := np.2.2.1 (by omega)
      have q1 := nq.2.2.1 (by omega)
      have p2 := np.2.2.2.1 (by omega)
      have q2 := nq.2.2.2.1 (by omega)
      cases hx : nodeOf l p with
      | mk x0 x1 x2 x3 =>
        cases hy : nodeOf l q with
        | mk y0 y1 y2 y3 =>
          rw [hx] at kp p1 p2 ap
          rw [hy] at kq q1 q2 aq
          simp only at kp kq p1 q1 p2 q2 ap aq
          have a1 : x2 = y2 := by omega
          rw [kp, kq, p1.1, q1.1, p2, q2, a1]
    unfold dupAt at hd
    rw [List.any_eq_false] at hd
    have := hd (nodeOf l p) (by
      rw [nodeOf_get hp.1, List.mem_iff_getElem]
      have := hp.1
      have := hq.1
      exact ⟨p, by rw [List.length_take]; omega, by rw [List.getElem_take]⟩)
    rw [e] at this
    exact this (sameN_refl _)
  have h1 := key hp hq
  have h2 := key hq hp
  omega

/-! how what is had grows -/
theorem set_has {H : List Bool} {a : Nat} (h : has H a = true) : H.set a true = H := by
  apply List.ext_getElem (by simp)
  intro i h1 h2
  rw [List.getElem_set]
  split
  · rename_i e
    subst e
    unfold has at h
    rw [List.getD_eq_getElem?_getD, List.getElem?_eq_getElem h2] at h
    exact h.symm
  · rfl
structure Adv (l : List S34) (S : Nat → Prop) (H : List Bool) (fl : Bool) (H' : List Bool) (fl' : Bool) : Prop where
  inv : Inv l S H'
  sub : ∀ k, has H k = true → has H' k = true
  le : cnt H ≤ cnt H'
  more : fl' = true → fl = true ∨ cnt H < cnt H'
  same : fl' = false → fl = false ∧ H' = H
theorem Adv.refl {l : List S34} {S : Nat → Prop} {H : List Bool} (h : Inv l S H) (fl : Bool) : Adv l S H fl H fl :=
  ⟨h, fun _ h => h, Nat.le_refl _, fun h => .inl h, fun h => ⟨h, rfl⟩⟩
theorem Adv.trans {l : List S34} {S : Nat → Prop} {H H1 H2 : List Bool} {f f1 f2 : Bool} (a : Adv l S H f H1 f1) (b : Adv l S H1 f1 H2 f2) : Adv l S H f H2 f2 := by
  refine ⟨b.inv, fun k h => b.sub k (a.sub k h), Nat.le_trans a.le b.le, fun h => ?_, fun h => ?_⟩
  · have h1 := a.le
    have h2 := b.le
    rcases b.more h with h3 | h3
    · rcases a.more h3 with h4 | h4
      · exact .inl h4
      · exact .inr (by omega)
    · exact .inr (by omega)
  · obtain ⟨h1, h2⟩ := b.same h
    obtain ⟨h3, h4⟩ := a.same h1
    exact ⟨h3, h2.trans h4⟩
theorem Adv.mark {l : List S34} {S : Nat → Prop} {H : List Bool} (h : Inv l S H) (fl : Bool) {k : Nat} (hk : k < l.length) (hd : Der l S k) : Adv l S H fl (H.set k true) (fl || !has H k) := by
  cases hh : has H k with
  | true =>
    rw [set_has hh]
    simp only [Bool.not_true, Bool.or_false]
    exact Adv.refl h fl
  | false =>
    have hl : k < H.length := by rw [h.len]; exact hk
    simp only [Bool.not_false, Bool.or_true]
    refine ⟨h.set hk hd, fun j hj => ?_, ?_, fun _ => .inr ?_, fun e => by cases e⟩
    · rw [has_set _ _ _ hl, hj]; simp
    · rw [cnt_set hl hh]; omega
    · rw [cnt_set hl hh]; omega
/-- the pubs as they are listed: for each place the pub of it, or the mark for none -/
structure Pubs (l : List S34) (d : Int) (P : List Int) (i : Nat) : Prop where
  len : P.length = l.length
  at_ : ∀ a, a < l.length → (rd P (a : Int) = d ∧ ∀ p, p < i → ¬ IsPub l a p) ∨ ∃ p, p < i ∧ IsPub l a p ∧ rd P (a : Int) = (p : Int)
theorem Pubs.skip {l : List S34} {d : Int} {P : List Int} {i : Nat} (h : Pubs l d P i) (hk : kd l i ≠ 6) : Pubs l d P (i + 1) := by
  refine ⟨h.len, fun a ha => ?_⟩
  rcases h.at_ a ha with ⟨h1, h2⟩ | ⟨p, h1, h2, h3⟩
  · refine .inl ⟨h1, fun p hp hq => ?_⟩
    by_cases e : p = i
    · rw [e] at hq; exact hk hq.2.1
    · exact h2 p (by omega) hq
  · exact .inr ⟨p, by omega, h2, h3⟩
theorem Pubs.put {l : List S34} {d : Int} {P : List Int} {i : Nat} (h : Pubs l d P i) (hi : i < l.length) (hk : kd l i = 6) : Pubs l d (P.set (pA l i) (i : Int)) (i + 1) := by
  refine ⟨by rw [List.length_set]; exact h.len, fun a ha => ?_⟩
  have hl := h.len
  have e1 : rd (P.set (pA l i) (i : Int)) (a : Int) = if pA l i = a then (i : Int) else rd P (a : Int) := by
    rw [rd_nat (by rw [List.length_set, hl]; exact ha), List.getElem_set, rd_nat (by rw [hl]; exact ha)]
  by_cases e : pA l i = a
  · exact .inr ⟨i, by omega, ⟨hi, hk, e⟩, by rw [e1, if_pos e]⟩
  · rcases h.at_ a ha with ⟨h1, h2⟩ | ⟨p, h1, h2, h3⟩
    · refine .inl ⟨by rw [e1, if_neg e]; exact h1, fun p hp hq => ?_⟩
      by_cases e2 : p = i
      · rw [e2] at hq; exact e hq.2.2
      · exact h2 p (by omega) hq
    · exact .inr ⟨p, by omega, h2, by rw [e1, if_neg e]; exact h3⟩
theorem rd_rep {n a : Nat} {d : Int} (h : a < n) : rd (List.replicate n d) (a : Int) = d := by
  rw [rd_nat (by simpa using h), List.getElem_replicate]
theorem Pubs.none (l : List S34) (d : Int) : Pubs l d (List.replicate l.length d) 0 :=
  ⟨by simp, fun a ha => .inl ⟨rd_rep ha, fun p hp => by omega⟩⟩
theorem pubs_one {l : List S34} (hr : ∀ j, j < l.length → rightAt l j = true) {a p : Nat} (h : IsPub l a p) : a < p ∧ p < l.length := by
  obtain ⟨b, hb, hbk⟩ := (right_parts (hr p h.1)).2.2.1 (by have := h.2.1; unfold kd at this; omega)
  have h2 := h.2.2
  unfold pA at h2
  rw [hb] at h2
  exact ⟨by omega, h.1⟩
/-- what the program asks of a place's pub -/
def pubHad (H : List Bool) (P : List Int) (d : Int) (a : Nat) : Bool := decide (rd P (a : Int) ≥ d) && rdOf false H (rd P (a : Int))
theorem pubHad_iff {l : List S34} (hok : aok l = true) {d : Int} {P : List Int} {H : List Bool} (h : Pubs l (d - 1) P l.length) (hd : d ≤ 1) {a : Nat} (ha : a < l.length) : pubHad H P d a = true ↔ ∃ p, IsPub l a p ∧ has H p = true := by
  have hr : ∀ j, j < l.length → rightAt l j = true := fun j hj => ((aok_parts hok).2 j hj).1
  unfold pubHad
  rw [Bool.and_eq_true, decide_eq_true_eq]
  rcases h.at_ a ha with ⟨h1, h2⟩ | ⟨p, h1, h2, h3⟩
  · rw [h1]
    constructor
    · intro ⟨e, _⟩; omega
    · intro ⟨p, e, _⟩; exact absurd e (h2 p e.1)
  · have hb := pubs_one hr h2
    rw [h3, rdOf_has]
    constructor
    · intro ⟨_, e⟩; exact ⟨p, h2, e⟩
    · intro ⟨q, e1, e2⟩
      rw [pub_once hok h2 e1]
      exact ⟨by have := pubs_one hr e1; omega, e2⟩
theorem pubs_range {l : List S34} {d : Int} {P : List Int} {i : Nat} (h : Pubs l d P i) (hd : d < l.length) {a : Nat} (ha : a < l.length) : rd P (a : Int) < (l.length : Int) := by
  rcases h.at_ a ha with ⟨h1, _⟩ | ⟨p, _, h2, h3⟩
  · rw [h1]; exact hd
  · rw [h3]; have := h2.1; omega
def madeB (H : List Bool) (P : List Int) (d : Int) (k f1 : Int) (a b : Nat) : Bool :=
  if k = 1 then decide (f1 < 1000) else if k = 3 ∨ k = 6 then has H a else if k = 7 then (has H a && pubHad H P d b) || (has H b && pubHad H P d a) else has H a && has H b
theorem madeB_iff {l : List S34} (hok : aok l = true) {d : Int} {P : List Int} {H : List Bool} (h : Pubs l (d - 1) P l.length) (hd : d ≤ 1) {i : Nat} (hi : i < l.length) : madeB H P d (kd l i) (nodeOf l i).f1 (pA l i) (pB l i) = true ↔ Made l H i := by
  have hr := ((aok_parts hok).2 i hi).1
  have rp := right_parts hr
  unfold madeB Made twoKind
  by_cases h1 : kd l i = 1
  · simp [h1]
  · rw [if_neg h1]
    by_cases h3 : kd l i = 3 ∨ kd l i = 6
    · rw [if_pos h3]
      have h7 : ¬ kd l i = 7 := by omega
      constructor
      · intro e; exact .inr (.inl ⟨h3, e⟩)
      · rintro (e | e | e | e)
        · exact absurd e.1 h1
        · exact e.2
        · exact absurd e.1 h7
        · omega
    · rw [if_neg h3]
      obtain ⟨a, ha, hai⟩ := rp.2.2.1 h1
      obtain ⟨b, hb, hbi⟩ := rp.2.2.2 h1 (by unfold kd at h3; simpa [oneKind] using h3)
      have ea : pA l i = a := by unfold pA; rw [ha]; rfl
      have eb : pB l i = b := by unfold pB; rw [hb]; rfl
      rw [ea, eb]
      by_cases h7 : kd l i = 7
      · rw [if_pos h7, Bool.or_eq_true, Bool.and_eq_true, Bool.and_eq_true, pubHad_iff hok h hd (by omega), pubHad_iff hok h hd (by omega)]
        constructor
        · intro e; exact .inr (.inr (.inl ⟨h7, e⟩))
        · rintro (e | e | e | e)
          · exact absurd e.1 h1
          · exact absurd e.1 h3
          · exact e.2
          · exact absurd h7 e.1.2.2.2
      · rw [if_neg h7, Bool.and_eq_true]
        constructor
        · intro e; exact .inr (.inr (.inr ⟨⟨h1, by omega, by omega, h7⟩, e⟩))
        · rintro (e | e | e | e)
          · exact absurd e.1 h1
          · exact absurd e.1 h3
          · exact absurd e.1 h7
          · exact e.2
/-- what comes out of a node, as a list -/
def outL (l : List S34) (H : List Bool) (i : Nat) : List Nat := if has H i = true then (if kd l i = 2 then [pA l i, pB l i] else if kd l i = 8 then [pB l i] else if kd l i = 5 then (if has H (pA l i) = true then [pB l i] else []) else []) else []
theorem outL_iff {l : List S34} {H : List Bool} {i o : Nat} (h : has H i = true) : o ∈ outL l H i ↔ Outs l H i o := by
  unfold outL Outs
  rw [if_pos h]
  by_cases h2 : kd l i = 2
  · rw [if_pos h2, h2]; simp
  · rw [if_neg h2]
    by_cases h8 : kd l i = 8
    · rw [if_pos h8, h8]; simp
    · rw [if_neg h8]
      by_cases h5 : kd l i = 5
      · rw [if_pos h5, h5]
        by_cases ha : has H (pA l i) = true
        · rw [if_pos ha]; simp [ha]
        · rw [if_neg ha]; simp [ha]
      · rw [if_neg h5]; simp [h2, h8, h5]
theorem outL_nil {l : List S34} {H : List Bool} {i : Nat} (h : ¬ has H i = true) : outL l H i = [] := by
  unfold outL
  rw [if_neg h]
theorem part_le {l : List S34} (hok : aok l = true) {i : Nat} (hi : i < l.length) (h1 : kd l i ≠ 1) : (nodeOf l i).f2 = (pA l i : Int) ∧ pA l i < i ∧ (oneKind (kd l i) = false → (nodeOf l i).f3 = (pB l i : Int) ∧ pB l i < i) := by
  have rp := right_parts ((aok_parts hok).2 i hi).1
  obtain ⟨a, ha, hai⟩ := rp.2.2.1 h1
  have ea : pA l i = a := by unfold pA; rw [ha]; rfl
  refine ⟨by rw [ea, ha], by omega, fun ho => ?_⟩
  obtain ⟨b, hb, hbi⟩ := rp.2.2.2 h1 ho
  have eb : pB l i = b := by unfold pB; rw [hb]; rfl
  exact ⟨by rw [eb, hb], by omega⟩

def known (ks : List Int) (k : Nat) : Prop := (k : Int) ∈ ks
theorem inv_none (l : List S34) (S : Nat → Prop) : Inv l S (List.replicate l.length false) := by
  refine ⟨by simp, fun i h => ?_⟩
  have := has_lt h
  unfold has at h
  rw [List.getD_eq_getElem?_getD, List.getElem?_eq_getElem this, List.getElem_replicate] at h
  cases h

/-! the reference's own walk over what can be had -/
theorem spec_dh {H : List Bool} {P : List Int} {a b : Nat} (ha : a < H.length) (hb : b < H.length) (hP : P.length = H.length) (hr : ∀ x : Nat, x < H.length → rd P (x : Int) < (H.length : Int)) (k : Nat) (y0 y1 : Int) : spec_l05Made.j0 (k + 1) H P 7 false y0 y1 (a : Int) (b : Int) = some ((has H a && pubHad H P 0 b) || (has H b && pubHad H P 0 a)) := by
  have a1 := hr a ha
  have b1 := hr b hb
  have e1 : ((a : Int) < (H.length : Int)) = True := eq_true (by omega)
  have e2 : ((b : Int) < (H.length : Int)) = True := eq_true (by omega)
  have e3 : ((a : Int) < (P.length : Int)) = True := eq_true (by omega)
  have e4 : ((b : Int) < (P.length : Int)) = True := eq_true (by omega)
  have e5 : (rd P (a : Int) < (H.length : Int)) = True := eq_true a1
  have e6 : (rd P (b : Int) < (H.length : Int)) = True := eq_true b1
  have e7 : (0 ≤ (a : Int)) = True := eq_true (by omega)
  have e8 : (0 ≤ (b : Int)) = True := eq_true (by omega)
  rw [spec_l05Made.j0]
  simp only [e1, e2, e3, e4, e5, e6, e7, e8, if_true, rdOf_has]
  unfold pubHad
  by_cases c1 : rd P (a : Int) ≥ 0
  · have f1 : (rd P (a : Int) ≥ 0) = True := eq_true c1
    have f2 : (0 ≤ rd P (a : Int)) = True := eq_true (by omega)
    have f3 : decide (rd P (a : Int) ≥ 0) = true := decide_eq_true (by omega)
    simp only [f1, f2, f3, if_true]
    by_cases c2 : rd P (b : Int) ≥ 0
    · have g1 : (rd P (b : Int) ≥ 0) = True := eq_true c2
      have g2 : (0 ≤ rd P (b : Int)) = True := eq_true (by omega)
      have g3 : decide (rd P (b : Int) ≥ 0) = true := decide_eq_true (by omega)
      simp only [g1, g2, g3, if_true]
      cases has H a <;> cases has H b <;> cases rdOf false H (rd P (a : Int)) <;> cases rdOf false H (rd P (b : Int)) <;> rfl
    · have g1 : (rd P (b : Int) ≥ 0) = False := eq_false c2
      have g3 : decide (rd P (b : Int) ≥ 0) = false := decide_eq_false (by omega)
      simp only [g1, g3, if_false]
      cases has H a <;> cases has H b <;> cases rdOf false H (rd P (a : Int)) <;> rfl
  · have f1 : (rd P (a : Int) ≥ 0) = False := eq_false c1
    have f3 : decide (rd P (a : Int) ≥ 0) = false := decide_eq_false (by omega)
    simp only [f1, f3, if_false]
    by_cases c2 : rd P (b : Int) ≥ 0
    · have g1 : (rd P (b : Int) ≥ 0) = True := eq_true c2
      have g2 : (0 ≤ rd P (b : Int)) = True := eq_true (by omega)
      have g3 : decide (rd P (b : Int) ≥ 0) = true := decide_eq_true (by omega)
      simp only [g1, g2, g3, if_true]
      cases has H a <;> cases has H b <;> cases rdOf false H (rd P (b : Int)) <;> rfl
    · have g1 : (rd P (b : Int) ≥ 0) = False := eq_false c2
      have g3 : decide (rd P (b : Int) ≥ 0) = false := decide_eq_false (by omega)
      simp only [g1, g3, if_false]
      cases has H a <;> cases has H b <;> rfl
theorem spec_one {H : List Bool} {P : List Int} {a : Nat} (ha : a < H.length) (k : Nat) (y y0 y1 y3 : Int) : spec_l05Made.j0 (k + 1) H P y true y0 y1 (a : Int) y3 = some (has H a) := by
  rw [spec_l05Made.j0, if_pos rfl, if_pos (by omega), if_pos (by omega), rdOf_has]
theorem spec_two {H : List Bool} {P : List Int} {a b : Nat} (ha : a < H.length) (hb : b < H.length) {y : Int} (hy : y ≠ 7) (k : Nat) (y0 y1 : Int) : spec_l05Made.j0 (k + 1) H P y false y0 y1 (a : Int) (b : Int) = some (has H a && has H b) := by
  rw [spec_l05Made.j0, if_neg (by simp), if_neg hy, if_pos (by omega), if_pos (by omega), rdOf_has]
  by_cases h : has H a = true
  · rw [if_pos h, if_pos (by omega), if_pos (by omega), rdOf_has, h]; simp
  · rw [if_neg h]; simp [h]
theorem spec_made_ev {l : List S34} (hok : aok l = true) {P : List Int} {H : List Bool} (hP : Pubs l (-1) P l.length) (hH : H.length = l.length) {i : Nat} (hi : i < l.length) :
    Ev (fun k => spec_l05Made.f k l H P (i : Int)) (madeB H P 0 (kd l i) (nodeOf l i).f1 (pA l i) (pB l i)) := by
  have hnode : rd_T34 l (i : Int) = nodeOf l i := rfl
  have ek : (nodeOf l i).f0 = kd l i := rfl
  refine evT (by omega) (evT (by omega) ?_)
  rw [hnode]
  by_cases h1 : kd l i = 1
  · refine ev_cast (evT h1 (Ev.now _)) ?_
    unfold madeB
    rw [if_pos h1]
  obtain ⟨h2, hA, hBo⟩ := part_le hok hi h1
  have hPl := hP.len
  have hr : ∀ x : Nat, x < H.length → rd P (x : Int) < (H.length : Int) := fun x hx => by
    have := pubs_range hP (by omega) (a := x) (by omega)
    omega
  refine evF h1 ?_
  unfold madeB
  rw [if_neg h1, h2]
  by_cases h3 : kd l i = 3
  · have e : ((nodeOf l i).f0 == 3) = true := by rw [beq_iff_eq]; exact h3
    rw [if_pos (.inl h3)]
    refine evT h3 (ev_end (fun k => ?_))
    rw [e, spec_one (by omega)]
  · by_cases h6 : kd l i = 6
    · have e : ((nodeOf l i).f0 == 6) = true := by rw [beq_iff_eq]; exact h6
      rw [if_pos (.inr h6)]
      refine evF h3 (ev_end (fun k => ?_))
      rw [e, spec_one (by omega)]
    · have e : ((nodeOf l i).f0 == 6) = false := by rw [beq_eq_false_iff_ne]; exact h6
      obtain ⟨h4, hB⟩ := hBo (by simp [oneKind, h3, h6])
      rw [if_neg (by omega), h4]
      by_cases h7 : kd l i = 7
      · rw [if_pos h7]
        have e7 : (nodeOf l i).f0 = 7 := h7
        refine evF h3 (ev_end (fun k => ?_))
        rw [e, e7, spec_dh (by omega) (by omega) (by omega) hr]
      · rw [if_neg h7]
        refine evF h3 (ev_end (fun k => ?_))
        rw [e, spec_two (y := (nodeOf l i).f0) (by omega) (by omega) h7]
/-- the parts of a node that is had -/
theorem spec_parts_ok {l : List S34} (hok : aok l = true) {S : Nat → Prop} {H : List Bool} (h : Inv l S H) {i : Nat} (hi : i < l.length) (hh : has H i = true) (fl : Bool) :
    ∃ b H', spec_l05Parts.f l H (i : Int) = some (b, H') ∧ Adv l S H fl H' (if b = true then true else fl) ∧ ((if b = true then true else fl) = false → ∀ o, Outs l H i o → has H o = true) := by
  have hnode : rd_T34 l (i : Int) = nodeOf l i := rfl
  have ek : (nodeOf l i).f0 = kd l i := rfl
  have hlen := h.len
  have hlt := fun o (ho : Outs l H i o) => der_lt (fun j hj => ((aok_parts hok).2 j hj).1) (Outs.der h hi hh ho)
  have one : ∀ o, Outs l H i o → (∀ o', Outs l H i o' → o' = o) → Adv l S H fl (H.set o true) (if (!has H o) = true then true else fl) ∧ ((if (!has H o) = true then true else fl) = false → ∀ o, Outs l H i o → has H o = true) := by
    intro o ho hall
    have hm := Adv.mark h fl (hlt o ho) (Outs.der h hi hh ho)
    cases hO : has H o with
    | true =>
      rw [hO] at hm
      simp only [Bool.not_true, Bool.or_false] at hm
      exact ⟨hm, fun _ o' ho' => by rw [hall o' ho']; exact hO⟩
    | false =>
      rw [hO] at hm
      simp only [Bool.not_false, Bool.or_true] at hm
      exact ⟨hm, fun e => by cases e⟩
  unfold spec_l05Parts.f
  rw [if_pos (by omega), if_pos (by omega), hnode, ek]
  by_cases h2 : kd l i = 2
  · obtain ⟨h4, hA, hBo⟩ := part_le hok hi (by omega)
    obtain ⟨h5, hB⟩ := hBo (by simp [oneKind, h2])
    have oA : Outs l H i (pA l i) := .inl ⟨h2, .inl rfl⟩
    have oB : Outs l H i (pB l i) := .inl ⟨h2, .inr rfl⟩
    rw [if_pos h2, h4, h5, if_pos (by omega), if_pos (by omega), rdOf_has]
    by_cases hA' : has H (pA l i) = true
    · rw [if_pos hA', if_pos (by omega), if_pos (by omega), rdOf_has, Int.toNat_natCast, Int.toNat_natCast, set_has hA']
      refine ⟨_, _, rfl, ?_⟩
      have hm := Adv.mark h fl (hlt _ oB) (Outs.der h hi hh oB)
      cases hO : has H (pB l i) with
      | true =>
        rw [hO] at hm
        simp only [Bool.not_true, Bool.or_false] at hm
        refine ⟨hm, fun _ o ho => ?_⟩
        rcases ho with ⟨_, e | e⟩ | ⟨e, _⟩ | ⟨e, _⟩
        · rw [e]; exact hA'
        · rw [e]; exact hO
        · omega
        · omega
      | false =>
        rw [hO] at hm
        simp only [Bool.not_false, Bool.or_true] at hm
        exact ⟨hm, fun e => by cases e⟩
    · rw [if_neg hA', if_pos (by omega), if_pos (by omega), Int.toNat_natCast, Int.toNat_natCast]
      refine ⟨_, _, rfl, ?_⟩
      have hm := Adv.mark h fl (hlt _ oA) (Outs.der h hi hh oA)
      have e1 : (fl || !has H (pA l i)) = true := by simp [hA']
      rw [e1] at hm
      have hm2 := Adv.mark hm.inv true (hlt _ oB) (Outs.der h hi hh oB)
      rw [Bool.true_or] at hm2
      exact ⟨hm.trans hm2, fun e => by cases e⟩
  · rw [if_neg h2]
    by_cases h8 : kd l i = 8
    · obtain ⟨h4, hA, hBo⟩ := part_le hok hi (by omega)
      obtain ⟨h5, hB⟩ := hBo (by simp [oneKind, h8])
      rw [if_pos h8, h5, if_pos (by omega), if_pos (by omega), rdOf_has, Int.toNat_natCast]
      refine ⟨_, _, rfl, one _ (.inr (.inl ⟨h8, rfl⟩)) (fun o ho => ?_)⟩
      rcases ho with ⟨e, _⟩ | ⟨_, e⟩ | ⟨e, _⟩
      · omega
      · exact e
      · omega
    · rw [if_neg h8]
      by_cases h5 : kd l i = 5
      · obtain ⟨h4, hA, hBo⟩ := part_le hok hi (by omega)
        obtain ⟨h6, hB⟩ := hBo (by simp [oneKind, h5])
        rw [if_pos h5, h4, if_pos (by omega), if_pos (by omega), rdOf_has]
        by_cases hA' : has H (pA l i) = true
        · rw [if_pos hA', h6, if_pos (by omega), if_pos (by omega), rdOf_has, Int.toNat_natCast]
          refine ⟨_, _, rfl, one _ (.inr (.inr ⟨h5, hA', rfl⟩)) (fun o ho => ?_)⟩
          rcases ho with ⟨e, _⟩ | ⟨e, _⟩ | ⟨_, _, e⟩
          · omega
          · omega
          · exact e
        · rw [if_neg hA']
          refine ⟨_, _, rfl, Adv.refl h fl, fun _ o ho => ?_⟩
          rcases ho with ⟨e, _⟩ | ⟨e, _⟩ | ⟨_, e, _⟩
          · omega
          · omega
          · exact absurd e hA'
      · rw [if_neg h5]
        refine ⟨_, _, rfl, Adv.refl h fl, fun _ o ho => ?_⟩
        rcases ho with ⟨e, _⟩ | ⟨e, _⟩ | ⟨e, _⟩
        · omega
        · omega
        · omega
/-- the walk up -/
theorem spec_up_ev {l : List S34} (hok : aok l = true) {S : Nat → Prop} {P : List Int} (hP : Pubs l (-1) P l.length) :
    ∀ (d i : Nat), l.length - i = d → i ≤ l.length → ∀ (H : List Bool) (fl : Bool), Inv l S H →
    ∃ H' fl', Adv l S H fl H' fl' ∧ (fl' = false → ∀ k, i ≤ k → k < l.length → Made l H k → has H k = true) ∧ ∀ r, Ev (fun k => spec_l05Reach.l3 k H' P fl' (wrap64 ((l.length : Int) - 1)) l) r →
      Ev (fun k => spec_l05Reach.l2 k H P fl (i : Int) l) r := by
  have hn := (aok_parts hok).1
  intro d
  induction d with
  | zero =>
    intro i hd hi H fl h
    have hl := h.len
    exact ⟨H, fl, Adv.refl h fl, fun _ k h1 h2 => by omega, fun r e => Ev.step (fun k => by rw [spec_l05Reach.l2, if_neg (by omega), hl]) e⟩
  | succ d ih =>
    intro i hd hi H fl h
    have hlt : i < l.length := by omega
    have hl := h.len
    have go : ∀ H1 f1, Adv l S H fl H1 f1 → (f1 = false → Made l H i → has H i = true) → (∀ r, Ev (fun k => spec_l05Reach.l2 k H1 P f1 ((i + 1 : Nat) : Int) l) r → Ev (fun k => spec_l05Reach.l2 k H P fl (i : Int) l) r) →
        ∃ H' fl', Adv l S H fl H' fl' ∧ (fl' = false → ∀ k, i ≤ k → k < l.length → Made l H k → has H k = true) ∧ ∀ r, Ev (fun k => spec_l05Reach.l3 k H' P fl' (wrap64 ((l.length : Int) - 1)) l) r → Ev (fun k => spec_l05Reach.l2 k H P fl (i : Int) l) r := by
      intro H1 f1 a1 s1 g1
      obtain ⟨H2, f2, a2, s2, g2⟩ := ih (i + 1) (by omega) (by omega) H1 f1 a1.inv
      refine ⟨H2, f2, a1.trans a2, fun e k hk1 hk2 => ?_, fun r e => g1 r (g2 r e)⟩
      obtain ⟨e1, q1⟩ := a2.same e
      obtain ⟨_, q0⟩ := a1.same e1
      by_cases ek : k = i
      · rw [ek]; exact s1 e1
      · have := s2 e k (by omega) hk2
        rw [q0] at this
        exact this
    by_cases hh : has H i = true
    · exact go H fl (Adv.refl h fl) (fun _ _ => hh) (fun r e => Ev.step (fun k => by rw [spec_l05Reach.l2, if_pos (by omega), if_pos (by omega), rdOf_has, if_pos hh, w64 (by omega) (by omega)]; rfl) e)
    · have hmi := madeB_iff hok (d := 0) (H := H) hP (by omega) hlt
      have hm := spec_made_ev hok hP hl hlt
      cases hb : madeB H P 0 (kd l i) (nodeOf l i).f1 (pA l i) (pB l i) with
      | true =>
        rw [hb] at hm hmi
        have ha := Adv.mark h fl hlt (Made.der h hlt (hmi.1 rfl))
        have e1 : (fl || !has H i) = true := by simp [hh]
        rw [e1] at ha
        refine go _ true ha (fun e => (by cases e)) (fun r e => Ev.step (fun k => by rw [spec_l05Reach.l2, if_pos (by omega), if_pos (by omega), rdOf_has, if_neg hh, w64 (x := (i : Int) + 1) (by omega) (by omega), Int.toNat_natCast]) (Ev.bind hm (evT rfl e)))
      | false =>
        rw [hb] at hm hmi
        refine go H fl (Adv.refl h fl) (fun _ hM => absurd (hmi.2 hM) (by simp)) (fun r e => Ev.step (fun k => by rw [spec_l05Reach.l2, if_pos (by omega), if_pos (by omega), rdOf_has, if_neg hh, w64 (x := (i : Int) + 1) (by omega) (by omega), Int.toNat_natCast]) (Ev.bind hm (evF Bool.false_ne_true e)))
/-- the walk down -/
theorem spec_down_ev {l : List S34} (hok : aok l = true) {S : Nat → Prop} {P : List Int} :
    ∀ (i : Nat), i ≤ l.length → ∀ (H : List Bool) (fl : Bool), Inv l S H →
    ∃ H' fl', Adv l S H fl H' fl' ∧ (fl' = false → ∀ k, k < i → has H k = true → ∀ o, Outs l H k o → has H o = true) ∧ ∀ r, Ev (fun k => spec_l05Reach.l1 k H' P fl' l) r →
      Ev (fun k => spec_l05Reach.l3 k H P fl ((i : Int) - 1) l) r := by
  have hn := (aok_parts hok).1
  intro i
  induction i with
  | zero =>
    intro hi H fl h
    exact ⟨H, fl, Adv.refl h fl, fun _ k h1 => by omega, fun r e => Ev.step (fun k => by rw [spec_l05Reach.l3, if_neg (by omega)]) e⟩
  | succ i ih =>
    intro hi H fl h
    have hlt : i < l.length := by omega
    have hl := h.len
    have hc : ((i + 1 : Nat) : Int) - 1 = (i : Int) := by omega
    rw [hc]
    have go : ∀ H1 f1, Adv l S H fl H1 f1 → (f1 = false → has H i = true → ∀ o, Outs l H i o → has H o = true) → (∀ r, Ev (fun k => spec_l05Reach.l3 k H1 P f1 ((i : Int) - 1) l) r → Ev (fun k => spec_l05Reach.l3 k H P fl (i : Int) l) r) →
        ∃ H' fl', Adv l S H fl H' fl' ∧ (fl' = false → ∀ k, k < i + 1 → has H k = true → ∀ o, Outs l H k o → has H o = true) ∧ ∀ r, Ev (fun k => spec_l05Reach.l1 k H' P fl' l) r → Ev (fun k => spec_l05Reach.l3 k H P fl (i : Int) l) r := by
      intro H1 f1 a1 s1 g1
      obtain ⟨H2, f2, a2, s2, g2⟩ := ih (by omega) H1 f1 a1.inv
      refine ⟨H2, f2, a1.trans a2, fun e k hk => ?_, fun r e => g1 r (g2 r e)⟩
      obtain ⟨e1, q1⟩ := a2.same e
      obtain ⟨_, q0⟩ := a1.same e1
      by_cases ek : k = i
      · rw [ek]; exact s1 e1
      · have := s2 e k (by omega)
        rw [q0] at this
        exact this
    by_cases hh : has H i = true
    · obtain ⟨b, H1, hp, ha, hs⟩ := spec_parts_ok hok h hlt hh fl
      refine go H1 _ ha (fun e _ => hs e) (fun r e => Ev.step (fun k => by rw [spec_l05Reach.l3, if_pos (by omega), if_pos (by omega), if_pos (by omega), rdOf_has, if_pos hh, w64 (x := (i : Int) - 1) (by omega) (by omega)]) (ev_now hp ?_))
      cases b with
      | true => exact evT rfl e
      | false => exact evF Bool.false_ne_true e
    · exact go H fl (Adv.refl h fl) (fun _ e => absurd e hh) (fun r e => Ev.step (fun k => by rw [spec_l05Reach.l3, if_pos (by omega), if_pos (by omega), if_pos (by omega), rdOf_has, if_neg hh, w64 (x := (i : Int) - 1) (by omega) (by omega)]) e)
theorem spec_round_ev {l : List S34} (hok : aok l = true) {S : Nat → Prop} {P : List Int} (hP : Pubs l (-1) P l.length) (H : List Bool) (h : Inv l S H) :
    ∃ H' fl', Adv l S H false H' fl' ∧ (fl' = false → ∀ k, k < l.length → Stable l H k) ∧ ∀ r, Ev (fun k => spec_l05Reach.l1 k H' P fl' l) r → Ev (fun k => spec_l05Reach.l1 k H P true l) r := by
  have hn := (aok_parts hok).1
  obtain ⟨H1, f1, a1, s1, g1⟩ := spec_up_ev hok hP l.length 0 (by omega) (by omega) H false h
  obtain ⟨H2, f2, a2, s2, g2⟩ := spec_down_ev hok (P := P) l.length (by omega) H1 f1 a1.inv
  refine ⟨H2, f2, a1.trans a2, fun e k hk => ?_, fun r e => Ev.step (fun k => by rw [spec_l05Reach.l1, if_pos rfl]; rfl) (g1 r (by rw [w64 (by omega) (by omega)]; exact g2 r e))⟩
  obtain ⟨e1, q1⟩ := a2.same e
  obtain ⟨_, q0⟩ := a1.same e1
  have := s2 e k hk
  rw [q0] at this
  exact ⟨s1 e1 k (by omega) hk, this⟩
theorem spec_all_ev {l : List S34} (hok : aok l = true) {S : Nat → Prop} {P : List Int} (hP : Pubs l (-1) P l.length) :
    ∀ (n : Nat) (H : List Bool), l.length - cnt H ≤ n → Inv l S H → (∀ k, k < l.length → S k → has H k = true) → ∃ H', IsReach l S H' ∧ Ev (fun k => spec_l05Reach.l1 k H P true l) H' := by
  intro n
  induction n with
  | zero =>
    intro H hn h hs
    obtain ⟨H1, f1, a1, s1, g1⟩ := spec_round_ev hok hP H h
    have hc1 := cnt_le H1
    have hl1 := a1.inv.len
    cases f1 with
    | true =>
      rcases a1.more rfl with e | e
      · cases e
      · omega
    | false =>
      obtain ⟨_, e⟩ := a1.same rfl
      refine ⟨H, isReach_of h hs (fun k hk => s1 rfl k hk), g1 H ?_⟩
      rw [e]
      exact ev_end (fun k => by rw [spec_l05Reach.l1, if_neg (by simp)])
  | succ n ih =>
    intro H hn h hs
    obtain ⟨H1, f1, a1, s1, g1⟩ := spec_round_ev hok hP H h
    cases f1 with
    | true =>
      rcases a1.more rfl with e | e
      · cases e
      · obtain ⟨H', h1, h2⟩ := ih H1 (by omega) a1.inv (fun k h1 h2 => a1.sub _ (hs k h1 h2))
        exact ⟨H', h1, g1 H' h2⟩
    | false =>
      obtain ⟨_, e⟩ := a1.same rfl
      refine ⟨H, isReach_of h hs (fun k hk => s1 rfl k hk), g1 H ?_⟩
      rw [e]
      exact ev_end (fun k => by rw [spec_l05Reach.l1, if_neg (by simp)])
theorem spec_pubs1_ev {l : List S34} (hok : aok l = true) : ∀ (d i : Nat), l.length - i = d → i ≤ l.length → ∀ P, Pubs l (-1) P i → ∃ P', Pubs l (-1) P' l.length ∧ Ev (fun k => spec_l05Pubs.l1 k P (i : Int) l) P' := by
  have hn := (aok_parts hok).1
  intro d
  induction d with
  | zero =>
    intro i hd hi P hP
    have e : i = l.length := by omega
    subst e
    exact ⟨P, hP, ev_end (fun k => by rw [spec_l05Pubs.l1, if_neg (by omega)])⟩
  | succ d ih =>
    intro i hd hi P hP
    have hlt : i < l.length := by omega
    have hPl := hP.len
    have hnode : rd_T34 l (i : Int) = nodeOf l i := rfl
    have ek : (nodeOf l i).f0 = kd l i := rfl
    by_cases h6 : kd l i = 6
    · obtain ⟨h2, hA, _⟩ := part_le hok hlt (by omega)
      obtain ⟨P', q1, q2⟩ := ih (i + 1) (by omega) (by omega) _ (hP.put hlt h6)
      exact ⟨P', q1, Ev.step (fun k => by rw [spec_l05Pubs.l1, if_pos (by omega), if_pos (by omega), hnode, ek, if_pos h6, h2, if_pos (by omega), if_pos (by omega), w64 (by omega) (by omega), Int.toNat_natCast]; rfl) q2⟩
    · obtain ⟨P', q1, q2⟩ := ih (i + 1) (by omega) (by omega) P (hP.skip h6)
      exact ⟨P', q1, Ev.step (fun k => by rw [spec_l05Pubs.l1, if_pos (by omega), if_pos (by omega), hnode, ek, if_neg h6, w64 (by omega) (by omega)]; rfl) q2⟩
theorem spec_pubs_ev {l : List S34} (hok : aok l = true) : ∀ (d i : Nat), l.length - i = d → i ≤ l.length → ∃ P', Pubs l (-1) P' l.length ∧ Ev (fun k => spec_l05Pubs.l0 k (List.replicate i (-1)) (i : Int) l) P' := by
  have hn := (aok_parts hok).1
  intro d
  induction d with
  | zero =>
    intro i hd hi
    have e : i = l.length := by omega
    subst e
    obtain ⟨P', q1, q2⟩ := spec_pubs1_ev hok l.length 0 (by omega) (by omega) _ (Pubs.none l (-1))
    exact ⟨P', q1, Ev.step (fun k => by rw [spec_l05Pubs.l0, if_neg (by omega)]; rfl) q2⟩
  | succ d ih =>
    intro i hd hi
    obtain ⟨P', q1, q2⟩ := ih (i + 1) (by omega) (by omega)
    refine ⟨P', q1, Ev.step (fun k => by rw [spec_l05Pubs.l0, if_pos (by omega), if_pos (by rw [List.length_replicate]; omega), w64 (by omega) (by omega), ← List.replicate_succ']; rfl) q2⟩
theorem spec_seeds_ev {l : List S34} (hok : aok l = true) (ks : List Int) (hks : ks.length ≤ 1048576) :
    ∀ (d j : Nat), ks.length - j = d → j ≤ ks.length → ∀ H, Inv l (known ks) H → (∀ x ∈ ks.take j, ∀ k : Nat, x = (k : Int) → k < l.length → has H k = true) →
    ∃ H', Inv l (known ks) H' ∧ (∀ k, k < l.length → known ks k → has H' k = true) ∧ ∀ P r, Ev (fun k => spec_l05Pubs.f k l) P → Ev (fun k => spec_l05Reach.l1 k H' P true l) r → Ev (fun k => spec_l05Reach.l0 k ks H (j : Int) l) r := by
  have hn := (aok_parts hok).1
  intro d
  induction d with
  | zero =>
    intro j hd hj H h hs
    refine ⟨H, h, fun k hk hS => hs _ (by rw [List.take_of_length_le (by omega)]; exact hS) k rfl hk, fun P r e1 e2 => Ev.step (fun k => by rw [spec_l05Reach.l0, if_neg (by omega)]) (Ev.bind e1 e2)⟩
  | succ d ih =>
    intro j hd hj H h hs
    have hlt : j < ks.length := by omega
    have hl := h.len
    have hv := rd_nat hlt
    have hf : spec_l01In.f (ks[j]) 0 ((H.length : Int) - 1) = some (decide (0 ≤ ks[j] ∧ ks[j] ≤ (l.length : Int) - 1)) := by
      unfold spec_l01In.f
      rw [hl]
      by_cases h0 : ks[j] ≥ 0
      · rw [if_pos h0]
        congr 1
        rw [decide_eq_decide]
        omega
      · rw [if_neg h0]
        congr 1
        symm
        rw [decide_eq_false_iff_not]
        omega
    by_cases hx : 0 ≤ ks[j] ∧ ks[j] ≤ (l.length : Int) - 1
    · obtain ⟨m, hm⟩ := Int.eq_ofNat_of_zero_le hx.1
      have hmem : known ks m := by unfold known; rw [← hm]; exact List.getElem_mem hlt
      have hml : m < l.length := by omega
      have hx3 : ks[j] < (H.length : Int) := by omega
      obtain ⟨H', h1, h2, h3⟩ := ih (j + 1) (by omega) (by omega) (H.set m true) (h.set hml (.seed hml hmem)) (by
        intro x hx2 k hk hkl
        rw [List.take_succ_eq_append_getElem hlt] at hx2
        rw [has_set _ _ _ (by omega)]
        rcases List.mem_append.1 hx2 with e | e
        · rw [hs x e k hk hkl]; simp
        · have : x = ks[j] := by simpa using e
          have : k = m := by omega
          simp [this])
      refine ⟨H', h1, h2, fun P r e1 e2 => Ev.step (fun k => by rw [spec_l05Reach.l0, if_pos (by omega), if_pos (by omega), hv, w64 (x := (H.length : Int) - 1) (by omega) (by omega)]) (ev_now hf (evT (decide_eq_true hx) (evT hx.1 (evT hx3 ?_))))⟩
      rw [w64 (by omega) (by omega), hm, Int.toNat_natCast]
      exact h3 P r e1 e2
    · obtain ⟨H', h1, h2, h3⟩ := ih (j + 1) (by omega) (by omega) H h (by
        intro x hx2 k hk hkl
        rw [List.take_succ_eq_append_getElem hlt] at hx2
        rcases List.mem_append.1 hx2 with e | e
        · exact hs x e k hk hkl
        · have : x = ks[j] := by simpa using e
          omega)
      refine ⟨H', h1, h2, fun P r e1 e2 => Ev.step (fun k => by rw [spec_l05Reach.l0, if_pos (by omega), if_pos (by omega), hv, w64 (x := (H.length : Int) - 1) (by omega) (by omega)]) (ev_now hf (evF (fun e => hx (of_decide_eq_true e)) ?_))⟩
      rw [w64 (by omega) (by omega)]
      exact h3 P r e1 e2
theorem spec_Reach_f (l : List S34) (hl : l.length ≤ 1048576) (ks : List Int) (hks : ks.length ≤ 1048576) :
    ∃ H, (aok l = true → IsReach l (known ks) H) ∧ (aok l = false → H = []) ∧ Ev (fun k => spec_Reach.f k l ks) H := by
  have hA := spec_ArenaOk_f l hl
  cases hok : aok l with
  | false => 
    refine ⟨[], fun e => (by cases e), fun _ => rfl, ?_⟩
    rw [hok] at hA
    exact Ev.bind hA (evF Bool.false_ne_true (Ev.now _))
  | true =>
    rw [hok] at hA
    have hn := (aok_parts hok).1
    obtain ⟨H1, i1, s1, g1⟩ := spec_seeds_ev hok ks hks ks.length 0 (by omega) (by omega) _ (inv_none l _) (fun x hx => by simp at hx)
    obtain ⟨P, p1, p2⟩ := spec_pubs_ev hok l.length 0 (by omega) (by omega)
    obtain ⟨H3, r3, g3⟩ := spec_all_ev hok p1 l.length H1 (by omega) i1 s1
    refine ⟨H3, fun _ => r3, fun e => (by cases e), Ev.bind hA (evT rfl (Ev.bind ?_ (Ev.now _)))⟩
    refine evT (by omega) (evT (by rw [Int.toNat_natCast]; omega) ?_)
    rw [Int.toNat_natCast]
    exact g1 P _ p2 g3

/-! whether a term can be had, as the reference tells it -/
theorem spec_Der_f (l : List S34) (hl : l.length ≤ 1048576) (hok : aok l = true) (ks : List Int) (hks : ks.length ≤ 1048576) (a : Nat) (ha : a < l.length) :
    ∃ b : Bool, (b = true ↔ Der l (known ks) a) ∧ Ev (fun k => spec_Derives.f k l ks (a : Int)) b := by
  obtain ⟨H, h1, _, h3⟩ := spec_Reach_f l hl ks hks
  have hr := h1 hok
  have hlen := hr.len
  refine ⟨has H a, hr.iff a, ?_⟩
  refine Ev.bind h3 ?_
  rw [w64 (by omega) (by omega)]
  simp only [spec_In_b, Option.bind_some]
  refine evT (by simp; omega) (evT (by omega) (evT (by omega) (ev_cast (Ev.now _) ?_)))
  rw [rdOf_has]

/-! draws: what they come to lies in its bounds -/
theorem New_ev (l : List Int) (hl : l.length ≤ 140737488351232) : ∀ (d i : Nat) (x : Int), 4000 - i = d → i ≤ l.length → ∃ h, Ev (fun k => spec_l01New.l0 k l x (i : Int)) (l, 0, h) := by
  intro d
  induction d with
  | zero =>
    intro i x hd hi
    by_cases hlt : i < l.length
    · exact ⟨x, ev_end (fun k => by rw [spec_l01New.l0, if_pos (by omega), if_neg (by omega)])⟩
    · exact ⟨x, ev_end (fun k => by rw [spec_l01New.l0, if_neg (by omega)])⟩
  | succ d ih =>
    intro i x hd hi
    by_cases hlt : i < l.length
    · obtain ⟨h, hh⟩ := ih (i + 1) (Go.bits .and .i64 (wrap64 ((wrap64 ((wrap64 (x * 131)) + (wrap64 (rd l i)))) + 7)) 1073741823) (by omega) (by omega)
      exact ⟨h, Ev.step (fun k => by rw [spec_l01New.l0, if_pos (by omega), if_pos (by omega), if_pos (by omega), w64 (x := (i : Int) + 1) (by omega) (by omega)]; rfl) hh⟩
    · exact ⟨x, ev_end (fun k => by rw [spec_l01New.l0, if_neg (by omega)])⟩
theorem New_f (l : List Int) (hl : l.length ≤ 140737488351232) : ∃ h, Ev (fun k => spec_l01New.f k l) (l, 0, h) := New_ev l hl 4000 0 _ rfl (by omega)
theorem cur_zero {l : List Int} (hl : l.length ≤ 140737488351232) : Cur l 0 := ⟨by omega, by omega, hl⟩
theorem Byte_f {l : List Int} {i : Int} (h : Int) (c : Cur l i) : ∃ r i' h', spec_l01Byte.f l i h = some (r, i', h') ∧ Cur l i' ∧ 0 ≤ r ∧ r ≤ 255 := by
  obtain ⟨c0, c1, c2⟩ := c
  unfold spec_l01Byte.f
  by_cases hi : i < (l.length : Int)
  · rw [if_pos hi, if_pos c0, w64 (x := i + 1) (by omega) (by omega)]
    exact ⟨_, _, _, rfl, ⟨by omega, by omega, c2⟩, (and255 _).1, (and255 _).2⟩
  · rw [if_neg hi]
    exact ⟨_, _, _, rfl, ⟨c0, c1, c2⟩, (and255 _).1, (and255 _).2⟩
theorem Below_f {l : List Int} {i : Int} (h n : Int) (hn : n ≤ 4294967296) (c : Cur l i) : ∃ r i' h', spec_l01Below.f l i h n = some (r, i', h') ∧ Cur l i' ∧ (0 < n → 0 ≤ r ∧ r < n) ∧ (n ≤ 0 → r = 0) := by
  unfold spec_l01Below.f
  by_cases h0 : n ≤ 0
  · rw [if_pos h0]
    exact ⟨_, _, _, rfl, c, fun h => by omega, fun _ => rfl⟩
  · rw [if_neg h0]
    by_cases h1 : n ≤ 256
    · rw [if_pos h1]
      obtain ⟨r, i', h', e, c', r0, r1⟩ := Byte_f h c
      rw [e]
      simp only [Option.bind_some]
      rw [if_neg (by omega)]
      exact ⟨_, _, _, rfl, c', fun _ => by rw [Int.tmod_eq_emod_of_nonneg r0]; exact ⟨Int.emod_nonneg _ (by omega), Int.emod_lt_of_pos _ (by omega)⟩, fun h => by omega⟩
    · rw [if_neg h1]
      obtain ⟨ra, ia, ha, ea, ca, a0, a1⟩ := Byte_f h c
      rw [ea]
      simp only [Option.bind_some]
      obtain ⟨rb, ib, hb, eb, cb, b0, b1⟩ := Byte_f ha ca
      rw [eb]
      simp only [Option.bind_some]
      obtain ⟨rc, ic, hc, ec, cc, c0, c1⟩ := Byte_f hb cb
      rw [ec]
      simp only [Option.bind_some]
      obtain ⟨rd, id, hd, ed, cd, d0, d1⟩ := Byte_f hc cc
      rw [ed]
      simp only [Option.bind_some]
      rw [if_neg (by omega)]
      refine ⟨_, _, _, rfl, cd, fun _ => ?_, fun h => by omega⟩
      have e1 : wrap64 (ra * 16777216) = ra * 16777216 := w64 (by omega) (by omega)
      have e2 : wrap64 (rb * 65536) = rb * 65536 := w64 (by omega) (by omega)
      have e3 : wrap64 (rc * 256) = rc * 256 := w64 (by omega) (by omega)
      have e4 : wrap64 (ra * 16777216 + rb * 65536) = ra * 16777216 + rb * 65536 := w64 (by omega) (by omega)
      have e5 : wrap64 (ra * 16777216 + rb * 65536 + rc * 256) = ra * 16777216 + rb * 65536 + rc * 256 := w64 (by omega) (by omega)
      have e6 : wrap64 (ra * 16777216 + rb * 65536 + rc * 256 + rd) = ra * 16777216 + rb * 65536 + rc * 256 + rd := w64 (by omega) (by omega)
      rw [e1, e2, e3, e4, e5, e6, Int.tmod_eq_emod_of_nonneg (by omega)]
      exact ⟨Int.emod_nonneg _ (by omega), Int.emod_lt_of_pos _ (by omega)⟩

theorem Places_ev (l : List Int) : ∀ (d n : Nat) (acc : List Int) (i h : Int), 12 - n = d → n ≤ 12 → acc.length = n → (∀ x ∈ acc, 0 ≤ x ∧ x < 10000) → Cur l i →
    ∃ r, Ev (fun k => spec_DrawPlaces.l0 k acc (n : Int) l i h) r ∧ r.length = 12 ∧ ∀ x ∈ r, 0 ≤ x ∧ x < 10000 := by
  intro d
  induction d with
  | zero =>
    intro n acc i h hd hn ha hx c
    exact ⟨acc, ev_end (fun k => by rw [spec_DrawPlaces.l0, if_neg (by omega)]), by omega, hx⟩
  | succ d ih =>
    intro n acc i h hd hn ha hx c
    obtain ⟨r, i', h', e, c', hr, _⟩ := Below_f h 10000 (by omega) c
    have hr := hr (by omega)
    obtain ⟨q, hq, q1, q2⟩ := ih (n + 1) (acc ++ [r]) i' h' (by omega) (by omega) (by simp; omega) (fun x hm => by
      rcases List.mem_append.1 hm with hm | hm
      · exact hx x hm
      · rw [List.mem_singleton.1 hm]; exact hr) c'
    refine ⟨q, ?_, q1, q2⟩
    refine Ev.step (fun k => by rw [spec_DrawPlaces.l0, if_pos (by omega), e, Option.bind_some, if_pos (by omega), w64 (x := (n : Int) + 1) (by omega) (by omega)]) ?_
    exact hq
theorem Places_f (l : List Int) (hl : l.length ≤ 140737488351232) : ∃ r, Ev (fun k => spec_DrawPlaces.f k l) r ∧ r.length = 12 ∧ ∀ x ∈ r, 0 ≤ x ∧ x < 10000 := by
  obtain ⟨h, hh⟩ := New_f l hl
  obtain ⟨r, i', h', e, c', _⟩ := Byte_f h (cur_zero hl)
  obtain ⟨q, hq, q1⟩ := Places_ev l 12 0 [] i' h' (by omega) (by omega) rfl (by simp) c'
  exact ⟨q, Ev.bind hh (ev_now e hq), q1⟩

/-! an arena whose first node is a drawn atom, and whose others are told -/
def drawn (n : Int) : S34 := ⟨1, n, 0, 0⟩
def putC (R : List S34) (x : S34) : List S34 × Int :=
  if nodeB x.f0 x.f1 x.f2 x.f3 ((R.length : Int) + 1) = true then (if 0 ≤ atV R x then (R, atV R x + 1) else if 2999 ≤ R.length then (R, -1) else (R ++ [x], (R.length : Int) + 1)) else (R, -1)
theorem atV_cons {n : Int} {R : List S34} {x : S34} (h : sameN (drawn n) x = false) : atV (drawn n :: R) x = if 0 ≤ atV R x then atV R x + 1 else -1 := by
  unfold atV
  rw [List.findIdx?_cons, h]
  cases hf : R.findIdx? (fun y => sameN y x) with
  | none => simp
  | some i =>
    simp only [Option.map_some, Bool.false_eq_true, if_false]
    rw [if_pos (by omega)]
    omega
theorem put_step {n : Int} {R : List S34} {x : S34} (h : sameN (drawn n) x = false) (hk : 0 ≤ (putC R x).2) : putB (drawn n :: R) false x = (drawn n :: (putC R x).1, false, (putC R x).2) := by
  have e : putN (drawn n :: R) x = (drawn n :: (putC R x).1, (putC R x).2) := by
    unfold putN putC at *
    have hl : (((drawn n :: R).length : Nat) : Int) = (R.length : Int) + 1 := by simp
    rw [hl, atV_cons h]
    by_cases h1 : nodeB x.f0 x.f1 x.f2 x.f3 ((R.length : Int) + 1) = true
    · rw [if_pos h1] at hk
      rw [if_pos h1, if_pos h1]
      by_cases h2 : 0 ≤ atV R x
      · rw [if_pos h2, if_pos h2, if_pos (by omega)]
      · rw [if_neg h2] at hk
        rw [if_neg h2, if_neg h2, if_neg (by omega)]
        by_cases h3 : 2999 ≤ R.length
        · rw [if_pos h3] at hk; simp at hk
        · rw [if_neg h3, if_neg (by simp; omega)]
          rfl
    · rw [if_neg h1] at hk; simp at hk
  unfold putB
  rw [if_neg (by simp), e, if_neg (by simp only; omega)]
theorem drawn_kind {n k m a b : Int} (h : k ≠ 1) : sameN (drawn n) ⟨k, m, a, b⟩ = false := by
  have : ((1 : Int) == k) = false := by simp; omega
  simp [sameN, drawn, this]
theorem drawn_num {n m a b : Int} (h : n ≠ m) : sameN (drawn n) ⟨1, m, a, b⟩ = false := by
  have : (n == m) = false := by simpa using h
  simp [sameN, drawn, this]
theorem atom_step {n : Int} {R R1 : List S34} {m k1 j : Int} (hn : n ≠ m) (h : putC R ⟨1, m, 0, 0⟩ = (R1, k1)) (hk : 0 ≤ k1) : atomB (drawn n :: R, false, j) m = (drawn n :: R1, false, k1) := by
  have := put_step (n := n) (R := R) (x := ⟨1, m, 0, 0⟩) (drawn_num hn) (by rw [h]; exact hk)
  rw [h] at this
  exact this
theorem of_step {n : Int} {R R1 : List S34} {kind x y k1 j : Int} (hn : kind ≠ 1) (h : putC R ⟨kind, 0, x, y⟩ = (R1, k1)) (hk : 0 ≤ k1) : ofB (drawn n :: R, false, j) kind x y = (drawn n :: R1, false, k1) := by
  have := put_step (n := n) (R := R) (x := ⟨kind, 0, x, y⟩) (drawn_kind hn) (by rw [h]; exact hk)
  rw [h] at this
  exact this
theorem kdf_step {n : Int} {R R1 R2 : List S34} {s m k1 k2 j : Int} (hn : n ≠ m) (h1 : putC R ⟨1, m, 0, 0⟩ = (R1, k1)) (p1 : 0 ≤ k1) (h2 : putC R1 ⟨4, 0, s, k1⟩ = (R2, k2)) (p2 : 0 ≤ k2) : kdfB (drawn n :: R, false, j) s m = (drawn n :: R2, false, k2) := by
  unfold kdfB
  rw [atom_step hn h1 p1]
  exact of_step (by decide) h2 p2
theorem end_step {l L : List S34} {k : Int} (hk : 0 ≤ k) : endN l (L, false, k) = (L, k) := by
  unfold endN
  rw [if_neg (by simp; omega)]
/-- rightness of what is told -/
def okC (R : List S34) : Bool := (List.range R.length).all (fun j => nodeB (nodeOf R j).f0 (nodeOf R j).f1 (nodeOf R j).f2 (nodeOf R j).f3 ((j : Int) + 1) && !dupAt R j)
theorem aok_drawn {n : Int} {R : List S34} (hn : 0 ≤ n ∧ n ≤ 999999) (hR : okC R = true) (hs : ∀ x ∈ R, sameN (drawn n) x = false) (hl : R.length ≤ 2000) : aok (drawn n :: R) = true := by
  have hcons : ∀ j, j < R.length → nodeOf (drawn n :: R) (j + 1) = nodeOf R j := fun j hj => by
    rw [nodeOf_get (by simp; omega), nodeOf_get hj]; rfl
  refine aok_true (by simp; omega) (fun j hj => ?_)
  rcases j with _ | j
  · refine ⟨?_, by simp [dupAt]⟩
    unfold rightAt
    rw [nodeOf_get (by simp)]
    simp [drawn, nodeB, hn.1, hn.2]
  · have hj' : j < R.length := by simpa using hj
    have h1 := List.all_eq_true.1 hR j (List.mem_range.2 hj')
    simp only [Bool.and_eq_true, Bool.not_eq_true'] at h1
    refine ⟨?_, ?_⟩
    · unfold rightAt
      rw [hcons j hj', show (((j + 1 : Nat)) : Int) = (j : Int) + 1 by omega]
      exact h1.1
    · unfold dupAt at h1 ⊢
      rw [hcons j hj', List.take_succ_cons, List.any_cons, h1.2, Bool.or_false]
      rw [nodeOf_get hj']
      exact hs _ (List.getElem_mem _)

/-! the steps of FnSecrets: what each call makes -/
def sAll : List S34 := [⟨1, 1, 0, 0⟩, ⟨4, 0, 0, 1⟩, ⟨1, 2, 0, 0⟩, ⟨4, 0, 0, 3⟩, ⟨1, 30, 0, 0⟩, ⟨4, 0, 0, 5⟩, ⟨4, 0, 6, 5⟩, ⟨1, 20, 0, 0⟩, ⟨4, 0, 0, 8⟩, ⟨3, 0, 6, 0⟩, ⟨4, 0, 9, 10⟩, ⟨3, 0, 7, 0⟩, ⟨4, 0, 9, 12⟩, ⟨1, 11, 0, 0⟩, ⟨4, 0, 0, 14⟩, ⟨9, 0, 15, 10⟩, ⟨1, 12, 0, 0⟩, ⟨4, 0, 0, 17⟩, ⟨9, 0, 18, 10⟩, ⟨2, 0, 2, 4⟩, ⟨3, 0, 0, 0⟩, ⟨4, 0, 20, 21⟩]
def sR (m : Nat) : List S34 := sAll.take m
theorem st1 {n : Int} (hn : 10000 ≤ n ∧ n ≤ 999999) : impl_SideKey.f (drawn n :: sR 0) 0 1 = some (drawn n :: sR 2, 2) := by
  unfold impl_SideKey.f
  rw [if_pos (by show (sR 0).length + 1 ≤ 1048576; decide), kdf_step (n := n) (R := sR 0) (R1 := sR 1) (R2 := sR 2) (s := 0) (m := 1) (k1 := 1) (k2 := 2) (by omega) (by kernel_rfl) (by decide) (by kernel_rfl) (by decide), end_step (by decide)]
theorem st2 {n : Int} (hn : 10000 ≤ n ∧ n ≤ 999999) : impl_SideKey.f (drawn n :: sR 2) 0 2 = some (drawn n :: sR 4, 4) := by
  unfold impl_SideKey.f
  rw [if_pos (by show (sR 2).length + 1 ≤ 1048576; decide), kdf_step (n := n) (R := sR 2) (R1 := sR 3) (R2 := sR 4) (s := 0) (m := 2) (k1 := 3) (k2 := 4) (by omega) (by kernel_rfl) (by decide) (by kernel_rfl) (by decide), end_step (by decide)]
theorem st3 {n : Int} (hn : 10000 ≤ n ∧ n ≤ 999999) : impl_EpochSecret.f (drawn n :: sR 4) 0 1 = some (drawn n :: sR 6, 6) := by
  have hok : nodeOkB (drawn n :: sR 4) 0 = true := by
    unfold nodeOkB
    rw [if_pos (by constructor <;> simp)]
    show nodeB 1 n 0 0 0 = true
    unfold nodeB
    rw [if_pos rfl]
    simp [hn.2]
    omega
  unfold impl_EpochSecret.f
  rw [if_pos ⟨by show (sR 4).length + 1 ≤ 1048576; decide, by decide, hok⟩]
  have e1 := kdf_step (j := 0) (n := n) (R := sR 4) (R1 := sR 5) (R2 := sR 6) (s := 0) (m := 30) (k1 := 5) (k2 := 6) (by omega) (by kernel_rfl) (by decide) (by kernel_rfl) (by decide)
  have e : epochB (drawn n :: sR 4, false, 0) 0 1 = (drawn n :: sR 6, false, 6) := e1
  rw [show ((1 : Int)).toNat = 1 from rfl, e, end_step (by decide)]
theorem st4 {n : Int} (hn : 10000 ≤ n ∧ n ≤ 999999) : impl_EpochSecret.f (drawn n :: sR 6) 0 2 = some (drawn n :: sR 7, 7) := by
  have hok : nodeOkB (drawn n :: sR 6) 0 = true := by
    unfold nodeOkB
    rw [if_pos (by constructor <;> simp)]
    show nodeB 1 n 0 0 0 = true
    unfold nodeB
    rw [if_pos rfl]
    simp [hn.2]
    omega
  unfold impl_EpochSecret.f
  rw [if_pos ⟨by show (sR 6).length + 1 ≤ 1048576; decide, by decide, hok⟩]
  have e1 := kdf_step (j := 0) (n := n) (R := sR 6) (R1 := sR 6) (R2 := sR 6) (s := 0) (m := 30) (k1 := 5) (k2 := 6) (by omega) (by kernel_rfl) (by decide) (by kernel_rfl) (by decide)
  have e2 := kdf_step (j := 6) (n := n) (R := sR 6) (R1 := sR 6) (R2 := sR 7) (s := 6) (m := 30) (k1 := 5) (k2 := 7) (by omega) (by kernel_rfl) (by decide) (by kernel_rfl) (by decide)
  have e : epochB (drawn n :: sR 6, false, 0) 0 2 = (drawn n :: sR 7, false, 7) := by
    show kdfB (kdfB (drawn n :: sR 6, false, 0) 0 30) (kdfB (drawn n :: sR 6, false, 0) 0 30).2.2 30 = _
    rw [e1]
    exact e2
  rw [show ((2 : Int)).toNat = 2 from rfl, e, end_step (by decide)]
theorem st5 {n : Int} (hn : 10000 ≤ n ∧ n ≤ 999999) : impl_EpochSecret.f (drawn n :: sR 7) 6 1 = some (drawn n :: sR 7, 7) := by
  have hok : nodeOkB (drawn n :: sR 7) 6 = true := by
    kernel_rfl
  unfold impl_EpochSecret.f
  rw [if_pos ⟨by show (sR 7).length + 1 ≤ 1048576; decide, by decide, hok⟩]
  have e1 := kdf_step (j := 6) (n := n) (R := sR 7) (R1 := sR 7) (R2 := sR 7) (s := 6) (m := 30) (k1 := 5) (k2 := 7) (by omega) (by kernel_rfl) (by decide) (by kernel_rfl) (by decide)
  have e : epochB (drawn n :: sR 7, false, 0) 6 1 = (drawn n :: sR 7, false, 7) := e1
  rw [show ((1 : Int)).toNat = 1 from rfl, e, end_step (by decide)]
theorem st6 {n : Int} (hn : 10000 ≤ n ∧ n ≤ 999999) : impl_AppSecret.f (drawn n :: sR 7) 0 6 = some (drawn n :: sR 11, 11) := by
  unfold impl_AppSecret.f
  rw [if_pos (by show (sR 7).length + 1 ≤ 1048576; decide)]
  have e1 : kdfB (drawn n :: sR 7, false, 0) 0 20 = (drawn n :: sR 9, false, 9) := kdf_step (j := 0) (n := n) (R := sR 7) (R1 := sR 8) (R2 := sR 9) (s := 0) (m := 20) (k1 := 8) (k2 := 9) (by omega) (by kernel_rfl) (by decide) (by kernel_rfl) (by decide)
  have e2 := of_step (j := 9) (n := n) (R := sR 9) (R1 := sR 10) (kind := 3) (x := 6) (y := 0) (k1 := 10) (by decide) (by kernel_rfl) (by decide)
  have e3 := of_step (j := 10) (n := n) (R := sR 10) (R1 := sR 11) (kind := 4) (x := 9) (y := 10) (k1 := 11) (by decide) (by kernel_rfl) (by decide)
  have e : appB (drawn n :: sR 7, false, 0) 0 6 = (drawn n :: sR 11, false, 11) := by
    unfold appB
    rw [e1, e2]
    exact e3
  rw [e, end_step (by decide)]
theorem st7 {n : Int} (hn : 10000 ≤ n ∧ n ≤ 999999) : impl_AppSecret.f (drawn n :: sR 11) 0 7 = some (drawn n :: sR 13, 13) := by
  unfold impl_AppSecret.f
  rw [if_pos (by show (sR 11).length + 1 ≤ 1048576; decide)]
  have e1 : kdfB (drawn n :: sR 11, false, 0) 0 20 = (drawn n :: sR 11, false, 9) := kdf_step (j := 0) (n := n) (R := sR 11) (R1 := sR 11) (R2 := sR 11) (s := 0) (m := 20) (k1 := 8) (k2 := 9) (by omega) (by kernel_rfl) (by decide) (by kernel_rfl) (by decide)
  have e2 := of_step (j := 9) (n := n) (R := sR 11) (R1 := sR 12) (kind := 3) (x := 7) (y := 0) (k1 := 12) (by decide) (by kernel_rfl) (by decide)
  have e3 := of_step (j := 12) (n := n) (R := sR 12) (R1 := sR 13) (kind := 4) (x := 9) (y := 12) (k1 := 13) (by decide) (by kernel_rfl) (by decide)
  have e : appB (drawn n :: sR 11, false, 0) 0 7 = (drawn n :: sR 13, false, 13) := by
    unfold appB
    rw [e1, e2]
    exact e3
  rw [e, end_step (by decide)]
theorem st8 {n : Int} (hn : 10000 ≤ n ∧ n ≤ 999999) : impl_DoneMac.f (drawn n :: sR 13) 0 1 6 = some (drawn n :: sR 16, 16) := by
  unfold impl_DoneMac.f
  rw [if_pos ⟨by show (sR 13).length + 1 ≤ 1048576; decide, by decide, by decide⟩]
  have e1 : kdfB (drawn n :: sR 13, false, 0) 0 (10 + 1) = (drawn n :: sR 15, false, 15) := kdf_step (j := 0) (n := n) (R := sR 13) (R1 := sR 14) (R2 := sR 15) (s := 0) (m := 11) (k1 := 14) (k2 := 15) (by omega) (by kernel_rfl) (by decide) (by kernel_rfl) (by decide)
  have e2 := of_step (j := 15) (n := n) (R := sR 15) (R1 := sR 15) (kind := 3) (x := 6) (y := 0) (k1 := 10) (by decide) (by kernel_rfl) (by decide)
  have e3 := of_step (j := 10) (n := n) (R := sR 15) (R1 := sR 16) (kind := 9) (x := 15) (y := 10) (k1 := 16) (by decide) (by kernel_rfl) (by decide)
  have e : doneB (drawn n :: sR 13, false, 0) 0 1 6 = (drawn n :: sR 16, false, 16) := by
    unfold doneB
    rw [e1, e2]
    exact e3
  rw [e, end_step (by decide)]
theorem st9 {n : Int} (hn : 10000 ≤ n ∧ n ≤ 999999) : impl_DoneMac.f (drawn n :: sR 16) 0 2 6 = some (drawn n :: sR 19, 19) := by
  unfold impl_DoneMac.f
  rw [if_pos ⟨by show (sR 16).length + 1 ≤ 1048576; decide, by decide, by decide⟩]
  have e1 : kdfB (drawn n :: sR 16, false, 0) 0 (10 + 2) = (drawn n :: sR 18, false, 18) := kdf_step (j := 0) (n := n) (R := sR 16) (R1 := sR 17) (R2 := sR 18) (s := 0) (m := 12) (k1 := 17) (k2 := 18) (by omega) (by kernel_rfl) (by decide) (by kernel_rfl) (by decide)
  have e2 := of_step (j := 18) (n := n) (R := sR 18) (R1 := sR 18) (kind := 3) (x := 6) (y := 0) (k1 := 10) (by decide) (by kernel_rfl) (by decide)
  have e3 := of_step (j := 10) (n := n) (R := sR 18) (R1 := sR 19) (kind := 9) (x := 18) (y := 10) (k1 := 19) (by decide) (by kernel_rfl) (by decide)
  have e : doneB (drawn n :: sR 16, false, 0) 0 2 6 = (drawn n :: sR 19, false, 19) := by
    unfold doneB
    rw [e1, e2]
    exact e3
  rw [e, end_step (by decide)]
theorem st10 {n : Int} (hn : 10000 ≤ n ∧ n ≤ 999999) : impl_HandSecret.f (drawn n :: sR 19) 2 4 0 = some (drawn n :: sR 22, 22) := by
  unfold impl_HandSecret.f
  rw [if_pos (by show (sR 19).length + 1 ≤ 1048576; decide)]
  have e1 : ofB (drawn n :: sR 19, false, 0) 2 2 4 = (drawn n :: sR 20, false, 20) := of_step (j := 0) (n := n) (R := sR 19) (R1 := sR 20) (kind := 2) (x := 2) (y := 4) (k1 := 20) (by decide) (by kernel_rfl) (by decide)
  have e2 := of_step (j := 20) (n := n) (R := sR 20) (R1 := sR 21) (kind := 3) (x := 0) (y := 0) (k1 := 21) (by decide) (by kernel_rfl) (by decide)
  have e3 := of_step (j := 21) (n := n) (R := sR 21) (R1 := sR 22) (kind := 4) (x := 20) (y := 21) (k1 := 22) (by decide) (by kernel_rfl) (by decide)
  have e : handB (drawn n :: sR 19, false, 0) 2 4 0 = (drawn n :: sR 22, false, 22) := by
    unfold handB
    rw [e1, e2]
    exact e3
  rw [e, end_step (by decide)]

/-! a law's own arena, in a block of the call's own -/
def LA (w wr : World) (ga : Nat) (A : Option Addr) (c : Nat) (L : List S34) : Prop := wr.heap[ga]? = some (.cells #[.slice A L.length c] 26 (0, 0)) ∧ Kd.R k34 34 wr w.heap.size (fun k => k ≠ ga) (.slice A L.length c) L ∧ L.length ≤ c ∧ w.heap.size ≤ ga ∧ Below w.heap.size w wr
theorem LA.blk {w wr : World} {ga : Nat} {A : Option Addr} {c : Nat} {L : List S34} (h : LA w wr ga A c L) : wr.heap[ga]? = some (.cells #[.slice A L.length c] 26 (0, 0)) := h.1
theorem LA.row {w wr : World} {ga : Nat} {A : Option Addr} {c : Nat} {L : List S34} (h : LA w wr ga A c L) : Kd.C k34 wr A L.length L := (Kd.R_reads' h.2.1).2.2
theorem LA.cap {w wr : World} {ga : Nat} {A : Option Addr} {c : Nat} {L : List S34} (h : LA w wr ga A c L) : L.length ≤ c := h.2.2.1
theorem LA.bel {w wr : World} {ga : Nat} {A : Option Addr} {c : Nat} {L : List S34} (h : LA w wr ga A c L) : Below w.heap.size w wr := h.2.2.2.2
theorem LA.below {w wr w1 : World} {ga : Nat} {A : Option Addr} {c : Nat} {L : List S34} (h : LA w wr ga A c L) (hb : Below wr.heap.size wr w1) : LA w w1 ga A c L :=
  ⟨blk_below h.1 hb, Kd.R_below h.2.1 hb, h.2.2.1, h.2.2.2.1, below_step h.2.2.2.2 hb⟩
theorem LA.cell {w wr : World} {ga : Nat} {A : Option Addr} {c : Nat} {L : List S34} (h : LA w wr ga A c L) : wr.cell? ⟨ga, 0, none⟩ = some (.slice A L.length c) := (blk_cell h.1 0).trans rfl
theorem LA.frozen {w wr : World} {ga : Nat} {A : Option Addr} {c : Nat} {L : List S34} (h : LA w wr ga A c L) : wr.frozen? ⟨ga, 0, none⟩ = false := blk_frozen h.1 0
/-- a call's arena, stored in the law's own -/
theorem LA.put {w wr w1 : World} {ga : Nat} {A A1 : Option Addr} {c c1 : Nat} {L L1 : List S34} (h : LA w wr ga A c L) (ho : Kd.R k34 34 w1 wr.heap.size (fun _ => True) (.slice A1 L1.length c1) L1) (hb : Below wr.heap.size wr w1) : LA w (w1.setCell ⟨ga, 0, none⟩ (.slice A1 L1.length c1)) ga A1 c1 L1 := by
  have hlt : ga < wr.heap.size := blk_lt h.1
  have ho2 : Kd.R k34 34 w1 w.heap.size (fun k => k ≠ ga) (.slice A1 L1.length c1) L1 := Kd.R_lower (Kd.R_mono (Kd.R_bound ho) (fun k hk e => by have := hk.2.1; omega)) h.2.2.2.2.size
  exact ⟨blk_put (blk_below h.1 hb) 0 _ rfl, Kd.R_far (p := ⟨ga, 0, none⟩) ho2 (fun k hk => hk) _, (Kd.R_reads' ho).2.1, h.2.2.2.1, below_set (below_step h.2.2.2.2 hb) h.2.2.2.1⟩
theorem LA.new {w w3 : World} {ga : Nat} (hb : w3.heap[ga]? = some (.cells #[.slice none 0 0] 26 (0, 0))) (hg : w.heap.size ≤ ga) (h3 : Below w.heap.size w w3) : LA w w3 ga none 0 [] :=
  ⟨hb, Kd.R_nil _ _ _ _ _, by simp, hg, h3⟩
/-- a literal of whole numbers, just made -/
theorem lit_C (W : World) (xs : List Int) (hx : xs.length ≤ 1000) : Kd.C (Kd.int .i64) (W.alloc (.cells (encs (Value.int .i64) xs).toArray 3)) (some ⟨W.heap.size, 0, none⟩) xs.length xs := by
  have h : Kd.R (Kd.int .i64) 3 (W.alloc (.cells (encs (Value.int .i64) xs).toArray 3)) W.heap.size (fun _ => True) (.slice (some ⟨W.heap.size, 0, none⟩) xs.length xs.length) xs := by
    refine ⟨fun _ _ => trivial, encs (Value.int .i64) xs, ?_, Kd.reps_scalar xs⟩
    have h2 := World.ownsRow_lit (base := W.heap.size) (e := 3) (size := 1) W (encs (Value.int .i64) xs).toArray xs.length (Nat.le_refl _) (by unfold maxLen; omega) (by simp [encs])
    exact h2
  exact (Kd.R_reads' h).2.2

theorem spec_der1 (k : Nat) (A : Option Addr) (c : Nat) (L : List S34) (x a : Int) (r : Bool) (q : World) (hC : Kd.C k34 q A L.length L) (hc : L.length ≤ c) (h : spec_Derives.f k L [x] a = some r) :
    Calls Try.prog 23 #[.agg #[.slice A L.length c], .slice (some ⟨q.heap.size, 0, none⟩) 1 1, .int .i64 a] (q.alloc (.cells #[.int .i64 x] 3)) fun e w' => e = .returned (.bool r) ∧ Below q.heap.size q w' :=
  (spec_Derives.calls k A c L (some ⟨q.heap.size, 0, none⟩) 1 [x] a r _ (Kd.C_below hC (below_alloc (Below.refl _ _) _)) hc (lit_C q [x] (by simp)) (Nat.le_refl _) h).mono fun e w' ⟨h1, h2⟩ => ⟨h1, below_step (below_alloc (Below.refl _ _) _) h2⟩
theorem spec_der2 (k : Nat) (A : Option Addr) (c : Nat) (L : List S34) (x y a : Int) (r : Bool) (q : World) (hC : Kd.C k34 q A L.length L) (hc : L.length ≤ c) (h : spec_Derives.f k L [x, y] a = some r) :
    Calls Try.prog 23 #[.agg #[.slice A L.length c], .slice (some ⟨q.heap.size, 0, none⟩) 2 2, .int .i64 a] (q.alloc (.cells #[.int .i64 x, .int .i64 y] 3)) fun e w' => e = .returned (.bool r) ∧ Below q.heap.size q w' :=
  (spec_Derives.calls k A c L (some ⟨q.heap.size, 0, none⟩) 2 [x, y] a r _ (Kd.C_below hC (below_alloc (Below.refl _ _) _)) hc (lit_C q [x, y] (by simp)) (Nat.le_refl _) h).mono fun e w' ⟨h1, h2⟩ => ⟨h1, below_step (below_alloc (Below.refl _ _) _) h2⟩
set_option maxHeartbeats 8000000 in
set_option maxRecDepth 100000 in
theorem law_secrets (A0 : Option Addr) (c0 : Nat) (l0 : List Int) (ps : List Int) (k : Nat) (n : Int) (L0 L1 L2 L3 L4 L5 L6 L7 L8 L9 L10 : List S34) (w : World) (hr0 : Kd.C (Kd.int .u8) w A0 l0.length l0) (hc0 : l0.length ≤ c0)
    (hbig : (l0.length : Int) ≤ 1048576) (hp : spec_DrawPlaces.f k l0 = some ps) (hlen : 0 < ps.length) (hn : 0 ≤ rd ps 0 ∧ rd ps 0 ≤ 10000) (hn2 : wrap64 (10000 + rd ps 0) = n)
    (h0 : spec_Atom.f [] n = some (L0, 0))
    (h1 : impl_SideKey.f L0 0 1 = some (L1, 2))
    (h2 : impl_SideKey.f L1 0 2 = some (L2, 4))
    (h3 : impl_EpochSecret.f L2 0 1 = some (L3, 6))
    (h4 : impl_EpochSecret.f L3 0 2 = some (L4, 7))
    (h5 : impl_EpochSecret.f L4 6 1 = some (L5, 7))
    (h6 : impl_AppSecret.f L5 0 6 = some (L6, 11))
    (h7 : impl_AppSecret.f L6 0 7 = some (L7, 13))
    (h8 : impl_DoneMac.f L7 0 1 6 = some (L8, 16))
    (h9 : impl_DoneMac.f L8 0 2 6 = some (L9, 19))
    (h10 : impl_HandSecret.f L9 2 4 0 = some (L10, 22))
    (hok : spec_ArenaOk.f k L10 = some true) (d1 : spec_Derives.f k L10 [7] 6 = some false) (d2 : spec_Derives.f k L10 [6] 7 = some true) (d3 : spec_Derives.f k L10 [2] 4 = some false) (d4 : spec_Derives.f k L10 [16, 11] 0 = some false) :
    Calls Try.prog 8 #[.slice A0 l0.length c0] w fun e w' => e = .returned (.bool true) ∧ Below w.heap.size w w' := by
  have hu26 := Try.underlying26
  have HR0 := Aside0.mk hr0
  have HC0 := Aside0.mk hc0
  have HBIG : Aside0 (laws_big.f l0 = some false) := ⟨by unfold laws_big.f; rw [decide_eq_false (by omega)]⟩
  have HP := Aside0.mk hp
  have HLEN := Aside0.mk hlen
  have HN := Aside0.mk hn
  have HN2 := Aside0.mk hn2
  have H0 := Aside0.mk h0
  have H1 := Aside0.mk h1
  have H2 := Aside0.mk h2
  have H3 := Aside0.mk h3
  have H4 := Aside0.mk h4
  have H5 := Aside0.mk h5
  have H6 := Aside0.mk h6
  have H7 := Aside0.mk h7
  have H8 := Aside0.mk h8
  have H9 := Aside0.mk h9
  have H10 := Aside0.mk h10
  have HOK := Aside0.mk hok
  have D1 := Aside0.mk d1
  have D2 := Aside0.mk d2
  have D3 := Aside0.mk d3
  have D4 := Aside0.mk d4
  clear hr0 hc0 hbig hp hlen hn hn2 h0 hok d1 d2 d3 d4 h1 h2 h3 h4 h5 h6 h7 h8 h9 h10
  go_enter Try.func8, Try.ntmps8
  go_wp2_with (first
    | (go_at_call 14; ((with_reducible refine (laws_big.calls A0 c0 l0 false _ HR0.out HC0.out HBIG.out).mono ?_); rintro e w2 ⟨rfl, hd⟩); have HB2 := Aside0.mk hd.below; clear hd)
    | ((with_reducible refine gate_dst (N := 3) rfl ?_); refine box_event ?hg (N := 3) ?hd (cs := #[.slice none 0 0]) (t := 26) ?hr ?_; (case hd => rfl); (case hg => rfl); (case hr => first | (go_simp; done) | (go_simp; rfl)); intro ga hg1 w3 hbox hb; have BKa := Aside0.mk hbox; have HB3 := Aside0.mk hb; have GA := Aside0.mk hg1; clear hg1 hbox hb; have hca3 : w3.cell? ⟨ga, 0, none⟩ = some (.slice none 0 0) := (blk_cell BKa.out 0).trans rfl; have hfa3 := blk_frozen BKa.out 0))
  have LA3 : Aside0 (LA w (w3.setCell ⟨ga, 0, none⟩ (.slice none 0 0)) ga none 0 []) := ⟨LA.new (blk_put BKa.out 0 _ rfl) (by rw [GA.out]; exact HB2.out.size) (below_set (below_step HB2.out HB3.out) (by rw [GA.out]; exact HB2.out.size))⟩
  generalize w3.setCell ⟨ga, 0, none⟩ (.slice none 0 0) = w4 at LA3 ⊢
  clear HB2 HB3 BKa GA
  have hca4 : w4.cell? ⟨ga, 0, none⟩ = some (.slice none 0 0) := LA3.out.cell
  have hfa4 := LA3.out.frozen
  refine start_ (n := 12) (S := fun w' => w'.cell? ⟨ga, 0, none⟩ = some (.slice none 0 0)) (ds := [10]) #[false, false, false, false, false, false, false, false, false, false, false, false] (by kernel_rfl) rfl rfl (LA3.out.cell) (fun hHeld => ?_)
  refine pure_ (i := 1) (N := some 20) (v := ?_) (a' := ?_) #[false, true, false, false, false, false, false, false, false, false, false, false] rfl rfl (by kernel_rfl) (fun _ _ _ h => h) (Or.inl ⟨by rfl, ?_⟩) ?_ ?_
  rotate_left
  · intro w'
    go_simp
    with_reducible rfl
  rotate_left
  · simp only [Act.put, List.setIfInBounds_toArray, List.set_cons_zero, List.set_cons_succ, i64_w, i32_w]
    rfl
  refine take_ (i := 0) (N := some 19) (v := ?_) (a' := ?_) #[true, true, false, false, false, false, false, false, false, false, false, false] rfl rfl (by kernel_rfl) (fun _ _ _ h => h) (Or.inl ⟨by rfl, ?_⟩) hHeld ?_ ?_
  rotate_left
  · intro w' s0
    go_simp
    with_reducible rfl
  rotate_left
  · simp only [Act.put, List.setIfInBounds_toArray, List.set_cons_zero, List.set_cons_succ, i64_w, i32_w]
    rfl
  refine one_ (i := 2) (N := some 21) #[true, true, true, false, false, false, false, false, false, false, false, false] rfl rfl (by kernel_rfl) (by decide) (fun K hK => ?_)
  refine goes_ Try.func17 (by kernel_rfl) rfl #[.slice A0 l0.length c0] (by rfl) rfl rfl (by simp only [List.map_toArray, List.map_cons, List.map_nil]; rfl) ?_
  with_reducible refine (spec_DrawPlaces.calls k A0 c0 l0 ps _ (Kd.C_below HR0.out (below_drew1 LA3.out.bel)) HC0.out HP.out).mono ?_
  rintro e w5 ⟨v5, rfl, ho, hb⟩
  refine ⟨_, rfl, ?_⟩
  have HB5 := Aside0.mk (show Below w4.heap.size w4 w5 from below_step (below_drew (Below.refl _ _)) hb)
  obtain ⟨Ap, cp, rfl, hcp, hCp⟩ := Kd.R_reads ho
  have LA5 := Aside0.mk (LA3.out.below HB5.out)
  obtain ⟨adp, e1, xp⟩ := Kd.at_int hCp 0 (by omega) (by have := HLEN.out; omega)
  cases e1
  have hq1 : (0 : Int) < (ps.length : Int) := by have := HLEN.out; omega
  have hq2 : 0 < ps.length := HLEN.out
  obtain ⟨p0, hp0⟩ : ∃ p0, rd ps 0 = p0 := ⟨_, rfl⟩
  rw [hp0] at HN HN2 xp
  have xp0 : w5.cell? adp = some (.int .i64 p0) := by first | exact xp | (have hx := xp; simpa using hx)
  clear xp
  have hb0 : 0 ≤ p0 := HN.out.1
  have hb1 : p0 ≤ 10000 := HN.out.2
  clear ho hb hCp hcp hp0
  refine hK.out _ _ (LA5.out.cell) (fun hHeld => ?_)
  clear hK K
  refine norm_ (a' := ?_) ?_ ?_
  rotate_left
  · show Act.put _ (some 21) _ = _
    simp only [Act.put, List.setIfInBounds_toArray, List.set_cons_zero, List.set_cons_succ, i64_w, i32_w]
    rfl
  refine pure_ (i := 3) (N := some 22) (v := ?_) (a' := ?_) #[true, true, true, true, false, false, false, false, false, false, false, false] rfl rfl (by kernel_rfl) (fun _ _ _ h => h) (Or.inl ⟨by rfl, ?_⟩) ?_ ?_
  rotate_left
  · intro w'
    go_simp
    with_reducible rfl
  rotate_left
  · simp only [Act.put, List.setIfInBounds_toArray, List.set_cons_zero, List.set_cons_succ, i64_w, i32_w]
    rfl
  refine one_ (i := 4) (N := some 23) #[true, true, true, true, true, false, false, false, false, false, false, false] rfl rfl (by kernel_rfl) (by decide) (fun K hK => ?_)
  refine value_ (w1 := ?_) (v := ?_) (by rfl) rfl ?_ ?_
  rotate_left 2
  · go_simp
    constructor
    · rfl
    · rfl
  refine hK.out _ _ (LA5.out.cell) (fun hHeld => ?_)
  clear hK K
  refine norm_ (a' := ?_) ?_ ?_
  rotate_left
  · show Act.put _ (some 23) _ = _
    simp only [Act.put, List.setIfInBounds_toArray, List.set_cons_zero, List.set_cons_succ, i64_w, i32_w]
    rfl
  refine pure_ (i := 5) (N := some 24) (v := ?_) (a' := ?_) #[true, true, true, true, true, true, false, false, false, false, false, false] rfl rfl (by kernel_rfl) (fun _ _ _ h => h) (Or.inl ⟨by rfl, ?_⟩) ?_ ?_
  rotate_left
  · intro w'
    go_simp
    with_reducible rfl
  rotate_left
  · simp only [Act.put, List.setIfInBounds_toArray, List.set_cons_zero, List.set_cons_succ, i64_w, i32_w]
    rfl
  refine one_ (i := 6) (N := some 25) #[true, true, true, true, true, true, true, false, false, false, false, false] rfl rfl (by kernel_rfl) (by decide) (fun K hK => ?_)
  refine goes_ Try.func40 (by kernel_rfl) rfl #[.agg #[.slice none 0 0], .int .i64 (wrap64 (10000 + p0))] (by rfl) rfl rfl (by simp only [List.map_toArray, List.map_cons, List.map_nil]; rfl) ?_
  refine (spec_Atom.calls none 0 [] (wrap64 (10000 + p0)) L0 0 _ (Kd.C_nil k34 _) (Nat.le_refl _) (by rw [HN2.out]; exact H0.out)).mono ?_
  rintro e w6 ⟨v6, rfl, ho, hb⟩
  refine ⟨_, rfl, ?_⟩
  obtain ⟨B0, b0, rfl, _, _⟩ := Kd.R_reads ho
  have HO6 := Aside0.mk ho
  have HB6 := Aside0.mk (below_step HB5.out hb)
  clear ho hb
  have LA6 := Aside0.mk (LA3.out.below HB6.out)
  have hca6 : w6.cell? ⟨ga, 0, none⟩ = some (.slice none 0 0) := LA6.out.cell
  have hfa6 := LA6.out.frozen
  refine hK.out _ _ (LA6.out.cell) (fun hHeld => ?_)
  clear hK K
  refine norm_ (a' := ?_) ?_ ?_
  rotate_left
  · show Act.put _ (some 25) _ = _
    simp only [Act.put, List.setIfInBounds_toArray, List.set_cons_zero, List.set_cons_succ, i64_w, i32_w]
    rfl
  refine pure_ (i := 7) (N := some 18) (v := ?_) (a' := ?_) #[true, true, true, true, true, true, true, true, false, false, false, false] rfl rfl (by kernel_rfl) (fun _ _ _ h => h) (Or.inl ⟨by rfl, ?_⟩) ?_ ?_
  rotate_left
  · intro w'
    go_simp
    with_reducible rfl
  rotate_left
  · simp only [Act.put, List.setIfInBounds_toArray, List.set_cons_zero, List.set_cons_succ, i64_w, i32_w]
    rfl
  refine pure_ (i := 8) (N := some 26) (v := ?_) (a' := ?_) #[true, true, true, true, true, true, true, true, true, false, false, false] rfl rfl (by kernel_rfl) (fun _ _ _ h => h) (Or.inl ⟨by rfl, ?_⟩) ?_ ?_
  rotate_left
  · intro w'
    go_simp
    with_reducible rfl
  rotate_left
  · simp only [Act.put, List.setIfInBounds_toArray, List.set_cons_zero, List.set_cons_succ, i64_w, i32_w]
    rfl
  refine pure_ (i := 9) (N := some 27) (v := ?_) (a' := ?_) #[true, true, true, true, true, true, true, true, true, true, false, false] rfl rfl (by kernel_rfl) (fun _ _ _ h => h) (Or.inl ⟨by rfl, ?_⟩) ?_ ?_
  rotate_left
  · intro w'
    go_simp
    with_reducible rfl
  rotate_left
  · simp only [Act.put, List.setIfInBounds_toArray, List.set_cons_zero, List.set_cons_succ, i64_w, i32_w]
    rfl
  refine last_ (i := 10) (N := none) #[true, true, true, true, true, true, true, true, true, true, true, false] rfl rfl (by kernel_rfl) (by decide) (fun K hK => ?_)
  refine skip_ (w1 := ?_) (by rfl) rfl ?_ ?_
  rotate_left
  · go_simp
    rfl
  refine hK.out _ _ ?_
  clear hK K
  refine pure_ (i := 11) (N := some 4) (v := ?_) (a' := ?_) #[true, true, true, true, true, true, true, true, true, true, true, true] rfl rfl (by kernel_rfl) (fun _ _ _ h => h) (Or.inl ⟨by rfl, ?_⟩) ?_ ?_
  rotate_left
  · intro w'
    go_simp
    with_reducible rfl
  rotate_left
  · simp only [Act.put, List.setIfInBounds_toArray, List.set_cons_zero, List.set_cons_succ, i64_w, i32_w]
    rfl
  refine done_ (by kernel_rfl) ?_
  have LB0 := Aside0.mk (LA.put LA3.out (Kd.R_lower HO6.out HB5.out.size) HB6.out)
  clear HO6 HB6 LA3 LA6
  go_wp2_with (first
    | (go_at_call 41; ((with_reducible refine (impl_SideKey.calls B0 b0 L0 0 1 L1 2 _ LB0.out.row LB0.out.cap H1.out).mono ?_); rintro e u1 ⟨v, rfl, ho, hb⟩); obtain ⟨B1, b1, rfl, _, _⟩ := Kd.R_reads ho; have LC := Aside0.mk (LB0.out.below hb); have LB1 := Aside0.mk (LA.put LB0.out ho hb); have hca1 : u1.cell? ⟨ga, 0, none⟩ = some (.slice B0 L0.length b0) := LC.out.cell; have hfa1 := LC.out.frozen; clear ho hb LC)
    | (go_at_call 41; ((with_reducible refine (impl_SideKey.calls B1 b1 L1 0 2 L2 4 _ LB1.out.row LB1.out.cap H2.out).mono ?_); rintro e u2 ⟨v, rfl, ho, hb⟩); obtain ⟨B2, b2, rfl, _, _⟩ := Kd.R_reads ho; have LC := Aside0.mk (LB1.out.below hb); have LB2 := Aside0.mk (LA.put LB1.out ho hb); have hca2 : u2.cell? ⟨ga, 0, none⟩ = some (.slice B1 L1.length b1) := LC.out.cell; have hfa2 := LC.out.frozen; clear ho hb LC)
    | (go_at_call 42; ((with_reducible refine (impl_EpochSecret.calls B2 b2 L2 0 1 L3 6 _ LB2.out.row LB2.out.cap H3.out).mono ?_); rintro e u3 ⟨v, rfl, ho, hb⟩); obtain ⟨B3, b3, rfl, _, _⟩ := Kd.R_reads ho; have LC := Aside0.mk (LB2.out.below hb); have LB3 := Aside0.mk (LA.put LB2.out ho hb); have hca3 : u3.cell? ⟨ga, 0, none⟩ = some (.slice B2 L2.length b2) := LC.out.cell; have hfa3 := LC.out.frozen; clear ho hb LC)
    | (go_at_call 42; ((with_reducible refine (impl_EpochSecret.calls B3 b3 L3 0 2 L4 7 _ LB3.out.row LB3.out.cap H4.out).mono ?_); rintro e u4 ⟨v, rfl, ho, hb⟩); obtain ⟨B4, b4, rfl, _, _⟩ := Kd.R_reads ho; have LC := Aside0.mk (LB3.out.below hb); have LB4 := Aside0.mk (LA.put LB3.out ho hb); have hca4 : u4.cell? ⟨ga, 0, none⟩ = some (.slice B3 L3.length b3) := LC.out.cell; have hfa4 := LC.out.frozen; clear ho hb LC)
    | (go_at_call 42; ((with_reducible refine (impl_EpochSecret.calls B4 b4 L4 6 1 L5 7 _ LB4.out.row LB4.out.cap H5.out).mono ?_); rintro e u5 ⟨v, rfl, ho, hb⟩); obtain ⟨B5, b5, rfl, _, _⟩ := Kd.R_reads ho; have LC := Aside0.mk (LB4.out.below hb); have LB5 := Aside0.mk (LA.put LB4.out ho hb); have hca5 : u5.cell? ⟨ga, 0, none⟩ = some (.slice B4 L4.length b4) := LC.out.cell; have hfa5 := LC.out.frozen; clear ho hb LC)
    | (go_at_call 43; ((with_reducible refine (impl_AppSecret.calls B5 b5 L5 0 6 L6 11 _ LB5.out.row LB5.out.cap H6.out).mono ?_); rintro e u6 ⟨v, rfl, ho, hb⟩); obtain ⟨B6, b6, rfl, _, _⟩ := Kd.R_reads ho; have LC := Aside0.mk (LB5.out.below hb); have LB6 := Aside0.mk (LA.put LB5.out ho hb); have hca6 : u6.cell? ⟨ga, 0, none⟩ = some (.slice B5 L5.length b5) := LC.out.cell; have hfa6 := LC.out.frozen; clear ho hb LC)
    | (go_at_call 43; ((with_reducible refine (impl_AppSecret.calls B6 b6 L6 0 7 L7 13 _ LB6.out.row LB6.out.cap H7.out).mono ?_); rintro e u7 ⟨v, rfl, ho, hb⟩); obtain ⟨B7, b7, rfl, _, _⟩ := Kd.R_reads ho; have LC := Aside0.mk (LB6.out.below hb); have LB7 := Aside0.mk (LA.put LB6.out ho hb); have hca7 : u7.cell? ⟨ga, 0, none⟩ = some (.slice B6 L6.length b6) := LC.out.cell; have hfa7 := LC.out.frozen; clear ho hb LC)
    | (go_at_call 44; ((with_reducible refine (impl_DoneMac.calls B7 b7 L7 0 1 6 L8 16 _ LB7.out.row LB7.out.cap H8.out).mono ?_); rintro e u8 ⟨v, rfl, ho, hb⟩); obtain ⟨B8, b8, rfl, _, _⟩ := Kd.R_reads ho; have LC := Aside0.mk (LB7.out.below hb); have LB8 := Aside0.mk (LA.put LB7.out ho hb); have hca8 : u8.cell? ⟨ga, 0, none⟩ = some (.slice B7 L7.length b7) := LC.out.cell; have hfa8 := LC.out.frozen; clear ho hb LC)
    | (go_at_call 44; ((with_reducible refine (impl_DoneMac.calls B8 b8 L8 0 2 6 L9 19 _ LB8.out.row LB8.out.cap H9.out).mono ?_); rintro e u9 ⟨v, rfl, ho, hb⟩); obtain ⟨B9, b9, rfl, _, _⟩ := Kd.R_reads ho; have LC := Aside0.mk (LB8.out.below hb); have LB9 := Aside0.mk (LA.put LB8.out ho hb); have hca9 : u9.cell? ⟨ga, 0, none⟩ = some (.slice B8 L8.length b8) := LC.out.cell; have hfa9 := LC.out.frozen; clear ho hb LC)
    | (go_at_call 45; ((with_reducible refine (impl_HandSecret.calls B9 b9 L9 2 4 0 L10 22 _ LB9.out.row LB9.out.cap H10.out).mono ?_); rintro e u10 ⟨v, rfl, ho, hb⟩); obtain ⟨B10, b10, rfl, _, _⟩ := Kd.R_reads ho; have LC := Aside0.mk (LB9.out.below hb); have LB10 := Aside0.mk (LA.put LB9.out ho hb); have hca10 : u10.cell? ⟨ga, 0, none⟩ = some (.slice B9 L9.length b9) := LC.out.cell; have hfa10 := LC.out.frozen; clear ho hb LC)
    | (go_at_call 25; ((with_reducible refine (spec_ArenaOk.calls k B10 b10 L10 true _ LB10.out.row LB10.out.cap HOK.out).mono ?_); rintro e q0 ⟨rfl, hb⟩); have LQ0 := Aside0.mk (LB10.out.below hb); have hq0 : q0.cell? ⟨ga, 0, none⟩ = some (.slice B10 L10.length b10) := LQ0.out.cell; clear hb)
    | (go_at_call 23; ((with_reducible refine (spec_der1 k B10 b10 L10 7 6 false q0 LQ0.out.row LQ0.out.cap D1.out).mono ?_); rintro e q1 ⟨rfl, hb⟩); have LQ1 := Aside0.mk (LQ0.out.below hb); have hq1 : q1.cell? ⟨ga, 0, none⟩ = some (.slice B10 L10.length b10) := LQ1.out.cell; clear hb)
    | (go_at_call 23; ((with_reducible refine (spec_der1 k B10 b10 L10 6 7 true q1 LQ1.out.row LQ1.out.cap D2.out).mono ?_); rintro e q2 ⟨rfl, hb⟩); have LQ2 := Aside0.mk (LQ1.out.below hb); have hq2 : q2.cell? ⟨ga, 0, none⟩ = some (.slice B10 L10.length b10) := LQ2.out.cell; clear hb)
    | (go_at_call 23; ((with_reducible refine (spec_der1 k B10 b10 L10 2 4 false q2 LQ2.out.row LQ2.out.cap D3.out).mono ?_); rintro e q3 ⟨rfl, hb⟩); have LQ3 := Aside0.mk (LQ2.out.below hb); have hq3 : q3.cell? ⟨ga, 0, none⟩ = some (.slice B10 L10.length b10) := LQ3.out.cell; clear hb)
    | (go_at_call 23; ((with_reducible refine (spec_der2 k B10 b10 L10 16 11 0 false q3 LQ3.out.row LQ3.out.cap D4.out).mono ?_); rintro e q4 ⟨rfl, hb⟩); have LQ4 := Aside0.mk (LQ3.out.below hb); have hq4 : q4.cell? ⟨ga, 0, none⟩ = some (.slice B10 L10.length b10) := LQ4.out.cell; clear hb))
  go_ret
  exact ⟨rfl, LQ4.out.bel⟩

-- ALLX
theorem rd_mem {l : List Int} {r : Int} (h0 : 0 ≤ r) (h1 : r < l.length) : rd l r ∈ l := by
  obtain ⟨k, rfl⟩ := Int.eq_ofNat_of_zero_le h0
  rw [rd_nat (by omega)]
  exact List.getElem_mem _
/-! what can be had of the secrets -/
def stabC (L : List S34) (H : List Nat) (k : Nat) : Bool :=
  if kd L k = 1 then H.contains k else if kd L k = 3 then (!H.contains (pA L k) || H.contains k) else if kd L k = 4 ∨ kd L k = 9 then (!(H.contains (pA L k) && H.contains (pB L k)) || H.contains k) else if kd L k = 2 then (!(H.contains (pA L k) && H.contains (pB L k)) || H.contains k) && (!H.contains k || (H.contains (pA L k) && H.contains (pB L k))) else false
theorem der_in {L : List S34} {S : Nat → Prop} {H : List Nat} (hs : ∀ k, k < L.length → S k → H.contains k = true) (hc : ∀ k, k < L.length → (kd L k = 1 ∧ 1000 ≤ (nodeOf L k).f1) ∨ stabC L H k = true) {k : Nat} (h : Der L S k) : H.contains k = true := by
  have hk : ∀ j, j < L.length → kd L j ≠ 6 ∧ kd L j ≠ 7 ∧ kd L j ≠ 8 ∧ kd L j ≠ 5 := by
    intro j hj
    rcases hc j hj with h1 | h1
    · rw [h1.1]; decide
    · unfold stabC at h1
      refine ⟨?_, ?_, ?_, ?_⟩ <;> (intro e; rw [e] at h1; simp at h1)
  induction h with
  | seed h1 h2 => exact hs _ h1 h2
  | @atom k h1 h2 h3 =>
    rcases hc k h1 with h4 | h4
    · omega
    · unfold stabC at h4; rw [if_pos h2] at h4; exact h4
  | @one k h1 h2 _ ih =>
    have := hk k h1
    rcases hc k h1 with h4 | h4
    · omega
    · have h3 : kd L k = 3 := by omega
      unfold stabC at h4
      rw [if_neg (by omega), if_pos h3, ih] at h4
      simpa using h4
  | dh1 h1 h2 _ _ _ _ _ => exact absurd h2 (hk _ h1).2.1
  | dh2 h1 h2 _ _ _ _ _ => exact absurd h2 (hk _ h1).2.1
  | @two k h1 h2 _ _ ih1 ih2 =>
    unfold twoKind at h2
    rcases hc k h1 with h4 | h4
    · omega
    · unfold stabC at h4
      rw [if_neg h2.1, if_neg h2.2.1] at h4
      by_cases h9 : kd L k = 4 ∨ kd L k = 9
      · rw [if_pos h9, ih1, ih2] at h4; simpa using h4
      · rw [if_neg h9] at h4
        by_cases h10 : kd L k = 2
        · rw [if_pos h10, ih1, ih2] at h4; simpa using h4
        · rw [if_neg h10] at h4; cases h4
  | @left k h1 h2 _ ih =>
    rcases hc k h1 with h4 | h4
    · omega
    · unfold stabC at h4
      rw [if_neg (by omega), if_neg (by omega), if_neg (by omega), if_pos h2, ih] at h4
      simp at h4
      first | simpa using h4.1 | simpa using h4.2.1
  | @right k h1 h2 _ ih =>
    rcases hc k h1 with h4 | h4
    · omega
    · unfold stabC at h4
      rw [if_neg (by omega), if_neg (by omega), if_neg (by omega), if_pos h2, ih] at h4
      simp at h4
      first | simpa using h4.2 | simpa using h4.2.2
  | said h1 h2 _ _ => exact absurd h2 (hk _ h1).2.2.1
  | opened h1 h2 _ _ _ _ => exact absurd h2 (hk _ h1).2.2.2
theorem nodeOf_cons {n : Int} {R : List S34} {j : Nat} (h : j < R.length) : nodeOf (drawn n :: R) (j + 1) = nodeOf R j := by
  rw [nodeOf_get (by simp; omega), nodeOf_get h]; rfl
/-- stableness of what is told, by reckoning -/
def stabR (R : List S34) (H : List Nat) (j : Nat) : Bool :=
  if (nodeOf R j).f0 = 1 then H.contains (j + 1) else if (nodeOf R j).f0 = 3 then (!H.contains (nodeOf R j).f2.toNat || H.contains (j + 1)) else if (nodeOf R j).f0 = 4 ∨ (nodeOf R j).f0 = 9 then (!(H.contains (nodeOf R j).f2.toNat && H.contains (nodeOf R j).f3.toNat) || H.contains (j + 1)) else if (nodeOf R j).f0 = 2 then (!(H.contains (nodeOf R j).f2.toNat && H.contains (nodeOf R j).f3.toNat) || H.contains (j + 1)) && (!H.contains (j + 1) || (H.contains (nodeOf R j).f2.toNat && H.contains (nodeOf R j).f3.toNat)) else false
theorem der_drawn {n : Int} {R : List S34} {S : Nat → Prop} {H : List Nat} (hn : 1000 ≤ n) (hs : ∀ k, S k → H.contains k = true) (hc : (List.range R.length).all (stabR R H) = true) {k : Nat} (h : Der (drawn n :: R) S k) : H.contains k = true := by
  refine der_in (fun k _ hk => hs k hk) (fun k hk => ?_) h
  rcases k with _ | j
  · left
    unfold kd
    rw [nodeOf_get (by simp)]
    exact ⟨rfl, hn⟩
  · right
    have hj : j < R.length := by simpa using hk
    have := List.all_eq_true.1 hc j (List.mem_range.2 hj)
    unfold stabR at this
    unfold stabC kd pA pB
    rw [nodeOf_cons hj]
    exact this
theorem known_mem {ks : List Int} {k : Nat} (h : known ks k) : (k : Int) ∈ ks := h
theorem walk (A0 : Option Addr) (c0 : Nat) (l0 : List Int) (w : World) (hr0 : Kd.C (Kd.int .u8) w A0 l0.length l0) (hc0 : l0.length ≤ c0) (hl : l0.length * 1 ≤ 140737488351232) :
    Calls Try.prog 8 #[.slice A0 l0.length c0] w fun e w' => e = .returned (.bool true) ∧ Below w.heap.size w w' := by
  by_cases hbig : (l0.length : Int) ≤ 1048576
  · obtain ⟨ps, hps, hlen, hall⟩ := Places_f l0 (by omega)
    have hp0 : rd ps 0 ∈ ps := rd_mem (by omega) (by omega)
    have hb := hall _ hp0
    obtain ⟨n, hn⟩ : ∃ n, 10000 + rd ps 0 = n := ⟨_, rfl⟩
    have hn1 : 10000 ≤ n ∧ n ≤ 999999 := by omega
    have h0 : spec_Atom.f [] n = some (drawn n :: sR 0, 0) := by
      have e : putN [] (⟨1, n, 0, 0⟩ : S34) = (drawn n :: sR 0, 0) := by
        unfold putN
        have h1 : nodeB 1 n 0 0 (([] : List S34).length : Int) = true := by
          unfold nodeB
          rw [if_pos rfl]
          simp [hn1.2]
          omega
        rw [if_pos h1]
        rfl
      unfold spec_Atom.f
      rw [e, if_pos (by decide), if_neg (by simp)]
    have hsame : ∀ x ∈ sR 22, sameN (drawn n) x = false := by
      intro x hx
      have hx2 : x.f0 ≠ 1 ∨ x.f1 ≤ 1000 := by
        have hall : (sR 22).all (fun x => decide (x.f0 ≠ 1) || decide (x.f1 ≤ 1000)) = true := by kernel_rfl
        have := List.all_eq_true.1 hall x hx
        simpa using this
      by_cases hk : x.f0 = 1
      · have : ¬ n = x.f1 := by omega
        have h2 : (n == x.f1) = false := by simpa using this
        simp [sameN, drawn, h2]
      · have h2 : ((1 : Int) == x.f0) = false := by simp; omega
        simp [sameN, drawn, h2]
    have hok : aok (drawn n :: sR 22) = true := aok_drawn ⟨by omega, hn1.2⟩ (by kernel_rfl) hsame (by decide)
    have hL : (drawn n :: sR 22).length ≤ 1048576 := by show (sR 22).length + 1 ≤ 1048576; decide
    have hA := spec_ArenaOk_f (drawn n :: sR 22) hL
    rw [hok] at hA
    obtain ⟨b1, i1, e1⟩ := spec_Der_f _ hL hok [7] (by decide) 6 (by show 6 < (sR 22).length + 1; decide)
    obtain ⟨b2, i2, e2⟩ := spec_Der_f _ hL hok [6] (by decide) 7 (by show 7 < (sR 22).length + 1; decide)
    obtain ⟨b3, i3, e3⟩ := spec_Der_f _ hL hok [2] (by decide) 4 (by show 4 < (sR 22).length + 1; decide)
    obtain ⟨b4, i4, e4⟩ := spec_Der_f _ hL hok [16, 11] (by decide) 0 (by show 0 < (sR 22).length + 1; decide)
    have n1 : b1 = false := by
      cases hb1 : b1 with
      | false => rfl
      | true =>
        have hin : ∀ k, known [7] k → ([1, 3, 5, 7, 8, 12, 14, 17] : List Nat).contains k = true := by
          intro k hk
          have h7 : (k : Int) = 7 := by simpa using known_mem hk
          have h8 : k = 7 := by omega
          subst h8; decide
        have := der_drawn (H := [1, 3, 5, 7, 8, 12, 14, 17]) (show 1000 ≤ n by omega) hin (by kernel_rfl) (i1.1 hb1)
        simp at this
    have n3 : b3 = false := by
      cases hb3 : b3 with
      | false => rfl
      | true =>
        have hin : ∀ k, known [2] k → ([1, 2, 3, 5, 8, 14, 17] : List Nat).contains k = true := by
          intro k hk
          have h7 : (k : Int) = 2 := by simpa using known_mem hk
          have h8 : k = 2 := by omega
          subst h8; decide
        have := der_drawn (H := [1, 2, 3, 5, 8, 14, 17]) (show 1000 ≤ n by omega) hin (by kernel_rfl) (i3.1 hb3)
        simp at this
    have n4 : b4 = false := by
      cases hb4 : b4 with
      | false => rfl
      | true =>
        have hin : ∀ k, known [16, 11] k → ([1, 3, 5, 8, 11, 14, 16, 17] : List Nat).contains k = true := by
          intro k hk
          have h7 : (k : Int) = 16 ∨ (k : Int) = 11 := by simpa using known_mem hk
          have h8 : k = 16 ∨ k = 11 := by omega
          rcases h8 with rfl | rfl <;> decide
        have := der_drawn (H := [1, 3, 5, 8, 11, 14, 16, 17]) (show 1000 ≤ n by omega) hin (by kernel_rfl) (i4.1 hb4)
        simp at this
    have n2 : b2 = true := by
      refine i2.2 (.two (by show 7 < (sR 22).length + 1; decide) ?_ ?_ ?_)
      · have : kd (drawn n :: sR 22) 7 = 4 := by kernel_rfl
        unfold twoKind
        rw [this]
        decide
      · have : pA (drawn n :: sR 22) 7 = 6 := by kernel_rfl
        rw [this]
        exact .seed (by show 6 < (sR 22).length + 1; decide) (by unfold known; simp)
      · have : pB (drawn n :: sR 22) 7 = 5 := by kernel_rfl
        rw [this]
        exact .atom (by show 5 < (sR 22).length + 1; decide) (by kernel_rfl) (by show (30 : Int) < 1000; decide)
    subst n1 n2 n3 n4
    obtain ⟨K1, f1⟩ := hps
    obtain ⟨K2, f2⟩ := hA
    obtain ⟨K3, f3⟩ := e1
    obtain ⟨K4, f4⟩ := e2
    obtain ⟨K5, f5⟩ := e3
    obtain ⟨K6, f6⟩ := e4
    exact law_secrets A0 c0 l0 ps (K1 + K2 + K3 + K4 + K5 + K6) n (drawn n :: sR 0) (drawn n :: sR 2) (drawn n :: sR 4) (drawn n :: sR 6) (drawn n :: sR 7) (drawn n :: sR 7) (drawn n :: sR 11) (drawn n :: sR 13) (drawn n :: sR 16) (drawn n :: sR 19) (drawn n :: sR 22) w hr0 hc0 hbig (f1 _ (by omega)) (by omega) ⟨hb.1, by omega⟩ (by rw [w64 (by omega) (by omega)]; exact hn) h0
      (st1 hn1) (st2 hn1) (st3 hn1) (st4 hn1) (st5 hn1) (st6 hn1) (st7 hn1) (st8 hn1) (st9 hn1) (st10 hn1) (f2 _ (by omega)) (f3 _ (by omega)) (f4 _ (by omega)) (f5 _ (by omega)) (f6 _ (by omega))
  · have HBIG : Aside0 (laws_big.f l0 = some true) := ⟨by unfold laws_big.f; rw [decide_eq_true (by omega)]⟩
    have HR0 := Aside0.mk hr0
    have HC0 := Aside0.mk hc0
    clear hr0 hc0 hbig hl
    go_enter Try.func8, Try.ntmps8
    go_wp2_with (go_at_call 14; ((with_reducible refine (laws_big.calls A0 c0 l0 true _ HR0.out HC0.out HBIG.out).mono ?_); rintro e w2 ⟨rfl, hd⟩); have HB2 := Aside0.mk hd.below; clear hd)
    go_ret
    exact ⟨rfl, HB2.out⟩

end Go.Proofs.Ytkckdibalopagaa.Pure
