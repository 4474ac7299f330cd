/- Proved: the program's List returns what the reference's List returns, for every arena and every list of places, in memory of its own, and leaves its arguments as they were; no condition. -/
import Derived.Test.YtkckdibalopagaaSFnExactListx6
import Derived.Test.YtkckdibalopagaaBase
namespace Go.Proofs.Ytkckdibalopagaa.Pure
open Go.RowKit Go.Proofs.Ytkckdibalopagaa.SFnExactList Go.Proofs.Ytkckdibalopagaa.Base Go.Proofs.YtkckdibalopagaaW.PrintWords Go.Proofs.YtkckdibalopagaaW.PrintLast Go.Proofs.YtkckdibalopagaaW.PrintMore
open Go.Proofs.Ytkckdibalopagaa.SFnExactList.Hand
set_option linter.unusedVariables false
set_option linter.unusedSimpArgs false

theorem node_neg {f0 f1 f2 f3 k : Int} (h : nodeB f0 f1 f2 f3 k = true) : f0 = 1 ∨ 0 ≤ f2 := by
  unfold nodeB at h
  by_cases h1 : f0 = 1
  · exact .inl h1
  · rw [if_neg h1] at h
    right
    by_cases h3 : f0 = 3 ∨ f0 = 6
    · rw [if_pos h3] at h
      simp only [Bool.and_eq_true, decide_eq_true_eq] at h
      omega
    · rw [if_neg h3] at h
      simp only [Bool.and_eq_true, decide_eq_true_eq] at h
      omega

/-! a bench and an arena that are made alike -/
def Alike (s : List S34 × Bool × Int) (t : List S34 × Int) : Prop := (s.2.1 = false ∧ s.1 = t.1 ∧ s.2.2 = t.2 ∧ 0 ≤ t.2) ∨ (s.2.1 = true ∧ t.2 < 0)
theorem alike_put (l : List S34) (x : S34) : Alike (putB l false x) (putN l x) := by
  unfold putB
  rw [if_neg (by simp)]
  by_cases h : (putN l x).2 < 0
  · rw [if_pos h]; exact .inr ⟨rfl, h⟩
  · rw [if_neg h]; exact .inl ⟨rfl, rfl, rfl, by omega⟩
theorem putN_neg2 (l : List S34) (kind x k : Int) (h2 : 2 ≤ kind) (h : x < 0) : (putN l ⟨kind, 0, x, k⟩).2 < 0 := by
  have hn : ¬ nodeB kind 0 x k (l.length : Int) = true := by
    intro hb
    have := node_neg hb
    omega
  unfold putN
  rw [if_neg hn]
  simp
theorem alike_pair (s : List S34 × Bool × Int) (t : List S34 × Int) (h : Alike s t) (x : Int) : Alike (ofB s 2 x s.2.2) (pairN t.1 x t.2) := by
  unfold ofB pairN
  rcases h with ⟨h1, h2, h3, h4⟩ | ⟨h1, h2⟩
  · rw [h1, h2, h3]
    by_cases hx : x < 0
    · rw [if_pos (.inl hx)]
      have hn := putN_neg2 t.1 2 x t.2 (by omega) hx
      unfold putB
      rw [if_neg (by simp), if_pos hn]
      exact .inr ⟨rfl, by simp⟩
    · rw [if_neg (by omega)]
      exact alike_put _ _
  · rw [h1, if_pos (.inr h2)]
    exact .inr ⟨rfl, by simp⟩
theorem alike_list (l : List S34) (xs : List Int) : Alike (listB l false xs) (listN l xs) := by
  induction xs with
  | nil => exact alike_put l _
  | cons x xs ih => exact alike_pair _ _ ih x
theorem alike_end {l : List S34} {s : List S34 × Bool × Int} {t : List S34 × Int} (h : Alike s t) : endN l s = if t.2 < 0 then (l, -1) else t := by
  unfold endN
  rcases h with ⟨h1, h2, h3, h4⟩ | ⟨h1, h2⟩
  · rw [if_neg (by rw [h1, h3]; simp; omega), if_neg (by omega), h2, h3]
  · rw [if_pos (.inl h1), if_pos h2]

/-! the law's own turning of what came in -/
def cv (x : S126) : S34 := ⟨x.f0, x.f1, x.f2, x.f3⟩
theorem rdL {l : List S126} {i : Nat} (h : i < l.length) : rd_T126 l (i : Int) = l[i] := by
  unfold rd_T126
  rw [Int.toNat_natCast, List.getD_eq_getElem?_getD, List.getElem?_eq_getElem h]
  rfl
theorem rdI {l : List S34} {i : Nat} (h : i < l.length) : rd_T34 l (i : Int) = l[i] := by
  unfold rd_T34
  rw [Int.toNat_natCast, List.getD_eq_getElem?_getD, List.getElem?_eq_getElem h]
  rfl
theorem toNodeS_ev (l : List S126) (hl : l.length ≤ 1048576) : ∀ (d i : Nat) (acc : List S34), l.length - i = d → i ≤ l.length → acc.length = l.length → acc.take i = (l.take i).map cv → Ev (fun k => laws_toNodeS.l0 k l acc (i : Int)) (l.map cv) := by
  intro d
  induction d with
  | zero =>
    intro i acc hd hi ha ht
    have e : i = l.length := by omega
    subst e
    rw [List.take_length, List.take_of_length_le (by omega)] at ht
    rw [← ht]
    exact ev_end (fun k => by rw [laws_toNodeS.l0, if_neg (by omega)])
  | succ d ih =>
    intro i acc hd hi ha ht
    have hlt : i < l.length := by omega
    refine Ev.step (fun k => by rw [laws_toNodeS.l0, if_pos (by omega), if_pos (by omega), rdL hlt]) ?_
    refine ev_now rfl (evT (by omega) ?_)
    rw [w64 (by omega) (by omega), Int.toNat_natCast]
    refine ih (i + 1) _ (by omega) (by omega) (by simp [ha]) ?_
    rw [List.take_succ_eq_append_getElem (by simp; omega), List.take_succ_eq_append_getElem hlt, List.map_append, List.map_singleton, List.getElem_set_self, List.take_set_of_le (by omega), ht]
    rfl
theorem toArena_f (l : List S126) (hl : l.length ≤ 1048576) : Ev (fun k => laws_toArena.f k l) (l.map cv) := by
  refine Ev.bind ?_ (Ev.now _)
  refine evT (by omega) (evT (by rw [Int.toNat_natCast]; omega) ?_)
  exact toNodeS_ev l hl l.length 0 _ (by omega) (by omega) (by simp) (by simp)
theorem szArena_f (l : List S126) (hl : l.length ≤ 9223372036854775807) : laws_szArena.f l 1048576 = some (if (l.length : Int) ≤ 1048576 then 1048576 - (l.length : Int) else -1) := by
  unfold laws_szArena.f laws_szNodeS.f
  rw [w64 (by omega) (by omega)]
  by_cases h : (l.length : Int) ≤ 1048576
  · rw [if_neg (by omega), if_pos h, Option.bind_some, if_neg (by omega)]
  · rw [if_pos (by omega), if_neg h, Option.bind_some, if_pos (by omega)]
theorem eqNodeS_ev (l : List S34) (hl : l.length ≤ 1048576) : ∀ (d i : Nat), l.length - i = d → i ≤ l.length → Ev (fun k => laws_eqNodeS.l0 k l l (i : Int)) true := by
  intro d
  induction d with
  | zero => intro i hd hi; exact ev_end (fun k => by rw [laws_eqNodeS.l0, if_neg (by omega)])
  | succ d ih =>
    intro i hd hi
    refine Ev.step (fun k => by rw [laws_eqNodeS.l0, if_pos (by omega), if_pos (by omega), if_pos (by omega)]) ?_
    refine ev_now (x := true) (by unfold laws_eqNode.f; rw [if_pos rfl, if_pos rfl, if_pos rfl, if_pos rfl]) (evT rfl ?_)
    rw [w64 (by omega) (by omega)]
    exact ih (i + 1) (by omega) (by omega)
theorem eqArena_f (l : List S34) (hl : l.length ≤ 1048576) : Ev (fun k => laws_eqArena.f k l l) true :=
  Ev.bind (evT rfl (eqNodeS_ev l hl l.length 0 (by omega) (by omega))) (evT rfl (Ev.now _))

/-! the law's own marking and turning: lists of numbers and of truths -/
theorem rd_nat {xs : List Int} {i : Nat} (h : i < xs.length) : rd xs (i : Int) = xs[i] := by
  unfold rd
  rw [Int.toNat_natCast, List.getD_eq_getElem?_getD, List.getElem?_eq_getElem h]
  rfl
theorem toIntS_ev (l : List Int) (hl : l.length ≤ 1048576) : ∀ (d i : Nat) (acc : List Int), l.length - i = d → i ≤ l.length → acc.length = l.length → acc.take i = l.take i → Ev (fun k => laws_toIntS.l0 k l acc (i : Int)) l := by
  intro d
  induction d with
  | zero =>
    intro i acc hd hi ha ht
    have e : i = l.length := by omega
    subst e
    rw [List.take_length, List.take_of_length_le (by omega)] at ht
    rw [ht]
    exact ev_end (fun k => by rw [laws_toIntS.l0, if_neg (by omega)])
  | succ d ih =>
    intro i acc hd hi ha ht
    have hlt : i < l.length := by omega
    refine Ev.step (fun k => by rw [laws_toIntS.l0, if_pos (by omega), if_pos (by omega), if_pos (by omega), rd_nat hlt, w64 (by omega) (by omega), Int.toNat_natCast]) ?_
    refine ih (i + 1) _ (by omega) (by omega) (by simp [ha]) ?_
    rw [List.take_succ_eq_append_getElem (by simp; omega), List.take_succ_eq_append_getElem hlt, List.getElem_set_self, List.take_set_of_le (by omega), ht]
theorem toIntS_f (l : List Int) (hl : l.length ≤ 1048576) : Ev (fun k => laws_toIntS.f k l) l := by
  refine evT (by omega) (evT (by rw [Int.toNat_natCast]; omega) ?_)
  exact toIntS_ev l hl l.length 0 _ (by omega) (by omega) (by simp) (by simp)
theorem eqIntS_ev (l : List Int) (hl : l.length ≤ 1048576) : ∀ (d i : Nat), l.length - i = d → i ≤ l.length → Ev (fun k => laws_eqIntS.l0 k l l (i : Int)) true := by
  intro d
  induction d with
  | zero => intro i hd hi; exact ev_end (fun k => by rw [laws_eqIntS.l0, if_neg (by omega)])
  | succ d ih =>
    intro i hd hi
    refine Ev.step (fun k => by rw [laws_eqIntS.l0, if_pos (by omega), if_pos (by omega), if_pos (by omega), if_pos rfl, w64 (by omega) (by omega)]) ?_
    exact ih (i + 1) (by omega) (by omega)
theorem eqIntS_f (l : List Int) (hl : l.length ≤ 1048576) : Ev (fun k => laws_eqIntS.f k l l) true :=
  evT rfl (eqIntS_ev l hl l.length 0 (by omega) (by omega))
theorem markIntS_ev (n : Nat) (hn : n ≤ 1048576) : ∀ (d i : Nat) (l : List Int) (a : Int), l.length = n → n - i = d → i ≤ n → 0 ≤ a → a + d ≤ 1000000000 → ∃ l', Ev (fun k => laws_markIntS.l0 k l a (i : Int)) (a + d, l') := by
  intro d
  induction d with
  | zero => intro i l a hl hd hi _ _; exact ⟨l, ev_end (fun k => by rw [laws_markIntS.l0, if_neg (by omega)]; simp)⟩
  | succ d ih =>
    intro i l a hl hd hi h0 hm
    obtain ⟨l', h⟩ := ih (i + 1) (l.set i a) (a + 1) (by simpa using hl) (by omega) (by omega) (by omega) (by omega)
    refine ⟨l', Ev.step (fun k => by rw [laws_markIntS.l0, if_pos (by omega), if_pos (by omega), w64 (by omega) (by omega), w64 (by omega) (by omega), Int.toNat_natCast]) ?_⟩
    refine ev_cast h ?_
    rw [Prod.mk.injEq]
    exact ⟨by omega, rfl⟩
theorem markIntS_f (l : List Int) (a : Int) (hl : l.length ≤ 1048576) (h0 : 0 ≤ a) (h1 : a ≤ 100000000) : ∃ l', Ev (fun k => laws_markIntS.f k l a) (a + l.length, l') :=
  markIntS_ev l.length hl l.length 0 l a rfl (by omega) (by omega) h0 (by omega)

/-! the law's marking of an arena, and its looking after the marks -/
def markN (a : Int) (n : Nat) : List S34 := (List.range n).map (fun (i : Nat) => (⟨a + 4 * (i : Int), a + 4 * (i : Int) + 1, a + 4 * (i : Int) + 2, a + 4 * (i : Int) + 3⟩ : S34))
theorem rd_set {l : List S34} {i : Nat} (h : i < l.length) (x : S34) : rd_T34 (l.set i x) (i : Int) = x := by
  rw [rdI (by simpa using h)]
  simp
theorem markN_succ (a : Int) (i : Nat) : markN a (i + 1) = markN a i ++ [⟨a + 4 * (i : Int), a + 4 * (i : Int) + 1, a + 4 * (i : Int) + 2, a + 4 * (i : Int) + 3⟩] := by
  unfold markN
  rw [List.range_succ, List.map_append]
  rfl
theorem markN_length (a : Int) (n : Nat) : (markN a n).length = n := by simp [markN]
theorem markNodeS_full (n : Nat) (hn : n ≤ 1048576) (a : Int) (h0 : 0 ≤ a) (hm : a ≤ 100000000) : ∀ (d i : Nat) (l : List S34), l.length = n → n - i = d → i ≤ n → l.take i = markN a i → Ev (fun k => laws_markNodeS.l0 k l (a + 4 * (i : Int)) (i : Int)) (a + 4 * (n : Int), markN a n) := by
  intro d
  induction d with
  | zero =>
    intro i l hl hd hi ht
    have e : i = n := by omega
    subst e
    rw [List.take_of_length_le (by omega)] at ht
    rw [← ht]
    exact ev_end (fun k => by rw [laws_markNodeS.l0, if_neg (by omega)])
  | succ d ih =>
    intro i l hl hd hi ht
    have hlt : i < l.length := by omega
    have h := ih (i + 1) (l.set i ⟨a + 4 * (i : Int), a + 4 * (i : Int) + 1, a + 4 * (i : Int) + 2, a + 4 * (i : Int) + 3⟩) (by simpa using hl) (by omega) (by omega) (by
      rw [List.take_succ_eq_append_getElem (by simp; omega), List.getElem_set_self, List.take_set_of_le (by omega), ht, markN_succ])
    have e : a + 4 * ((i + 1 : Nat) : Int) = a + 4 * (i : Int) + 4 := by omega
    rw [e] at h
    refine Ev.step (fun k => ?_) h
    rw [laws_markNodeS.l0, if_pos (by omega), if_pos (by omega), w64 (x := a + 4 * (i : Int) + 1) (by omega) (by omega), w64 (x := a + 4 * (i : Int) + 1 + 1) (by omega) (by omega), w64 (x := a + 4 * (i : Int) + 1 + 1 + 1) (by omega) (by omega), w64 (x := a + 4 * (i : Int) + 1 + 1 + 1 + 1) (by omega) (by omega), w64 (x := (i : Int) + 1) (by omega) (by omega)]
    simp only [Option.bind_some, Int.toNat_natCast, List.set_set, rd_set hlt]
    have e2 : a + 4 * (i : Int) + 1 + 1 = a + 4 * (i : Int) + 2 := by omega
    have e3 : a + 4 * (i : Int) + 2 + 1 = a + 4 * (i : Int) + 3 := by omega
    have e4 : a + 4 * (i : Int) + 3 + 1 = a + 4 * (i : Int) + 4 := by omega
    rw [e2, e3, e4]
    rfl
theorem markArena_full (l : List S34) (a : Int) (hl : l.length ≤ 1048576) (h0 : 0 ≤ a) (h1 : a ≤ 100000000) : Ev (fun k => laws_markArena.f k l a) (a + 4 * (l.length : Int), markN a l.length) := by
  have h := markNodeS_full l.length hl a h0 h1 l.length 0 l rfl (by omega) (by omega) rfl
  have e : a + 4 * ((0 : Nat) : Int) = a := by omega
  rw [e] at h
  exact Ev.bind h (Ev.now _)
theorem heldNodeS_ev (n : Nat) (hn : n ≤ 1048576) (a : Int) (h0 : 0 ≤ a) (hm : a ≤ 100000000) : ∀ (d i : Nat), n - i = d → i ≤ n → Ev (fun k => laws_heldNodeS.l0 k (markN a n) (a + 4 * (i : Int)) (i : Int)) (a + 4 * (n : Int)) := by
  have hlen := markN_length a n
  intro d
  induction d with
  | zero =>
    intro i hd hi
    have e : i = n := by omega
    subst e
    exact ev_end (fun k => by rw [laws_heldNodeS.l0, if_neg (by omega)])
  | succ d ih =>
    intro i hd hi
    have hlt : i < (markN a n).length := by omega
    have hv : rd_T34 (markN a n) (i : Int) = ⟨a + 4 * (i : Int), a + 4 * (i : Int) + 1, a + 4 * (i : Int) + 2, a + 4 * (i : Int) + 3⟩ := by
      rw [rdI hlt]
      simp [markN]
    have h := ih (i + 1) (by omega) (by omega)
    have e : a + 4 * ((i + 1 : Nat) : Int) = a + 4 * (i : Int) + 4 := by omega
    rw [e] at h
    refine Ev.step (fun k => ?_) h
    rw [laws_heldNodeS.l0, if_pos (by omega), if_pos (by omega), hv, w64 (x := a + 4 * (i : Int) + 1) (by omega) (by omega), w64 (x := a + 4 * (i : Int) + 1 + 1) (by omega) (by omega), w64 (x := a + 4 * (i : Int) + 1 + 1 + 1) (by omega) (by omega), w64 (x := a + 4 * (i : Int) + 1 + 1 + 1 + 1) (by omega) (by omega), w64 (x := (i : Int) + 1) (by omega) (by omega)]
    rw [if_pos rfl, if_pos rfl, if_pos (by simp only; omega), if_pos (by simp only; omega)]
    have e4 : a + 4 * (i : Int) + 1 + 1 + 1 + 1 = a + 4 * (i : Int) + 4 := by omega
    rw [e4]
    rfl
theorem heldArena_f (n : Nat) (a : Int) (hl : n ≤ 1048576) (h0 : 0 ≤ a) (h1 : a ≤ 100000000) : Ev (fun k => laws_heldArena.f k (markN a n) a) (a + 4 * (n : Int)) := by
  have h := heldNodeS_ev n hl a h0 h1 n 0 (by omega) (by omega)
  have e : a + 4 * ((0 : Nat) : Int) = a := by omega
  rw [e] at h
  exact Ev.bind h (evF (by omega) (Ev.now _))

theorem FnExactList : ∀ (l : List S126) (ks : List Int), l.length ≤ 9223372036854775807 → (∀ x ∈ l, (Lit.int .i64 x.f0).wf = true ∧ (Lit.int .i64 x.f1).wf = true ∧ (Lit.int .i64 x.f2).wf = true ∧ (Lit.int .i64 x.f3).wf = true) → ks.length * 8 ≤ 140737488351232 → (∀ n ∈ ks, (Lit.int .i64 n).wf = true) → ∃ k, laws_FnExactList.f k l ks = some true := by
  intro l ks hl hwf _ _
  by_cases hks : (ks.length : Int) > 1048576
  · exact Ev.rounds (evT hks (Ev.now _))
  refine Ev.rounds (evF hks (ev_now (szArena_f l hl) ?_))
  by_cases hb : (l.length : Int) ≤ 1048576
  · rw [if_pos hb]
    refine evF (by omega) ?_
    have hc := toArena_f l (by omega)
    have hm : (l.map cv).length ≤ 1048576 := by rw [List.length_map]; omega
    have hi := toIntS_f ks (by omega)
    obtain ⟨G, hG⟩ : ∃ G, (if (listN (l.map cv) ks).2 < 0 then (l.map cv, -1) else listN (l.map cv) ks) = G := ⟨_, rfl⟩
    have hs : spec_List.f (l.map cv) ks = some G := by
      unfold spec_List.f
      rw [if_pos hm, ← hG]
      by_cases h : (listN (l.map cv) ks).2 < 0
      · rw [if_pos h, if_pos h]
      · rw [if_neg h, if_neg h]
    have hp : impl_List.f (l.map cv) ks = some G := by
      unfold impl_List.f
      rw [if_pos hm, alike_end (alike_list (l.map cv) ks), hG]
    have hlen : G.1.length ≤ 1048576 := by
      rw [← hG]
      split
      · exact hm
      · exact listN_len hm ks
    obtain ⟨l2, m2⟩ := markIntS_f ks (1 + 4 * ((l.map cv).length : Int)) (by omega) (by omega) (by omega)
    have m1 := markArena_full (l.map cv) 1 hm (by omega) (by omega)
    have mG := markArena_full G.1 1 hlen (by omega) (by omega)
    have hG2 := heldArena_f G.1.length 1 hlen (by omega) (by omega)
    have hsame : (G.2 != G.2) = false := by simp
    refine Ev.bind hc (Ev.bind hi (ev_now hs (Ev.bind hc (Ev.bind hi (ev_now hp (Ev.bind (eqArena_f G.1 hlen) (evT rfl ?_)))))))
    simp only [hsame]
    refine Ev.step (fun k => by rw [laws_FnExactList.j0, if_neg (by simp)]) ?_
    refine Ev.bind hc (Ev.bind (eqArena_f _ hm) (evT rfl (Ev.bind hi (Ev.bind (eqIntS_f ks (by omega)) (evT rfl (Ev.bind m1 (Ev.bind m2 (evF (by show ¬ _ < (0 : Int); omega) (Ev.bind (eqArena_f G.1 hlen) (evT rfl ?_))))))))))
    simp only [hsame]
    refine Ev.step (fun k => by rw [laws_FnExactList.j1, if_neg (by simp)]) ?_
    refine Ev.bind mG (Ev.bind hG2 (evF (by show ¬ _ < (0 : Int); omega) (evT rfl (Ev.bind hc (Ev.bind hi (ev_now hp (Ev.bind (eqArena_f G.1 hlen) (evT rfl ?_))))))))
    simp only [hsame]
    refine Ev.step (fun k => by rw [laws_FnExactList.j2, if_neg (by simp)]) ?_
    exact Ev.bind hG2 (evF (by omega) (evT rfl (Ev.now _)))
  · rw [if_neg hb]
    exact evT (by omega) (Ev.now _)

end Go.Proofs.Ytkckdibalopagaa.Pure
