-- Began as a print of the kit over stubs (wip/stub.py); the sections that are named OWN are this session's.
import Derived.Test.YtkckdibalopagaaSFnReachesx0
import Derived.Test.YtkckdibalopagaaSFnReachesx2
import Derived.Test.YtkckdibalopagaaVBase
import Derived.Test.YtkckdibalopagaaVMapOnce
import Derived.RegionTactic
import Derived.BigRegion
import Derived.Carry
import Derived.DeepKeys4
import Derived.Test.YtkckdibalopagaaVShort
namespace Go.Proofs.Ytkckdibalopagaa.SFnReaches
open Go.RowKit Go.Proofs.YtkckdibalopagaaW.PrintWords Go.Proofs.YtkckdibalopagaaW.PrintLast Go.Proofs.YtkckdibalopagaaW.PrintMore Go.Proofs.Ytkckdibalopagaa.Short
attribute [local go_sem] max2_int min2_int max_two min_two max_three min_three max_four min_four   -- for this text's walks alone
set_option linter.unusedVariables false
set_option linter.unusedSimpArgs false

/-! ### spec_l03Arena: OWN: function 69 -/
namespace Hand
open Go.Proofs.Ytkckdibalopagaa.Base
theorem rdI {l : List S34} {i : Nat} (h : i < l.length) : rd_T34 l (i : Int) = l[i] := by
 unfold rd_T34
 rw [Int.toNat_natCast, List.getD_eq_getElem?_getD, List.getElem?_eq_getElem h]
 rfl

/-! a node's rightness -/
def nodeB (f0 f1 f2 f3 k : Int) : Bool :=
  if f0 = 1 then decide (0 ≤ f1) && decide (f1 ≤ 999999) && decide (f2 = 0) && decide (f3 = 0)
  else if f0 = 3 ∨ f0 = 6 then decide (f1 = 0) && (decide (0 ≤ f2) && decide (f2 ≤ k - 1)) && decide (f3 = 0)
  else (decide (2 ≤ f0) && decide (f0 ≤ 9)) && decide (f1 = 0) && (decide (0 ≤ f2) && decide (f2 ≤ k - 1)) && (decide (0 ≤ f3) && decide (f3 ≤ k - 1))
theorem beq_dec (x : Int) : (x == 0) = decide (x = 0) := by
 by_cases h : x = 0 <;> simp [h]

def nodeOf (l : List S34) (i : Nat) : S34 := rd_T34 l (i : Int)
def rightAt (l : List S34) (i : Nat) : Bool := nodeB (nodeOf l i).f0 (nodeOf l i).f1 (nodeOf l i).f2 (nodeOf l i).f3 (i : Int)

/-! an arena's rightness, as the program tells it: each node right, none like an earlier one -/
def sameN (a b : S34) : Bool := a.f0 == b.f0 && a.f1 == b.f1 && a.f2 == b.f2 && a.f3 == b.f3
def dupAt (l : List S34) (j : Nat) : Bool := (l.take j).any (fun y => sameN y (nodeOf l j))
def aok (l : List S34) : Bool := decide (l.length ≤ 3000) && (List.range l.length).all (fun j => rightAt l j && !dupAt l j)
def wf1 (x : S34) : Bool := (Lit.int .i64 x.f0).wf && (Lit.int .i64 x.f1).wf && (Lit.int .i64 x.f2).wf && (Lit.int .i64 x.f3).wf
theorem aok_true {l : List S34} (h : l.length ≤ 3000) (hall : ∀ j, j < l.length → rightAt l j = true ∧ dupAt l j = false) : aok l = true := by
 unfold aok
 simp only [Bool.and_eq_true, decide_eq_true_eq, List.all_eq_true, List.mem_range]
 exact ⟨h, fun j hj => by rw [(hall j hj).1, (hall j hj).2]; exact ⟨rfl, rfl⟩⟩
theorem aok_false {l : List S34} {j : Nat} (hj : j < l.length) (h : rightAt l j = false ∨ dupAt l j = true) : aok l = false := by
 unfold aok
 rw [Bool.and_eq_false_iff]
 right
 rw [List.all_eq_false]
 refine ⟨j, List.mem_range.2 hj, ?_⟩
 rcases h with h | h <;> simp [h]
theorem aok_big {l : List S34} (h : ¬ l.length ≤ 3000) : aok l = false := by
 unfold aok
 simp [h]
theorem aok_parts {l : List S34} (h : aok l = true) : l.length ≤ 3000 ∧ ∀ j, j < l.length → rightAt l j = true ∧ dupAt l j = false := by
 unfold aok at h
 simp only [Bool.and_eq_true, decide_eq_true_eq, List.all_eq_true, List.mem_range] at h
 exact ⟨h.1, fun j hj => by have := h.2 j hj; simpa using this⟩

theorem spec_In_b (a b c : Int) : spec_l01In.f a b c = some (decide (b ≤ a) && decide (a ≤ c)) := by
 unfold spec_l01In.f
 by_cases h : a ≥ b
 ·rw [if_pos h]; simp [h]
 ·rw [if_neg h]
  have : ¬ b ≤ a := h
  simp [this]
theorem spec_One_f (k : Int) : spec_l03One.f k = some (decide (k = 3 ∨ k = 6)) := by
 unfold spec_l03One.f
 by_cases h : k = 3
 ·rw [if_pos h]; simp [h]
 ·rw [if_neg h]
  by_cases h6 : k = 6 <;> simp [h, h6]
theorem spec_l03Node_j0 (f0 f1 f2 f3 k : Int) (hk : 0 ≤ k ∧ k ≤ 9223372036854775807) (c : Bool) : Ev (fun n => spec_l03Node.j0 n k c f0 f1 f2 f3)
  (!c && (if f0 = 3 ∨ f0 = 6 then decide (f3 = 0) else (decide (0 ≤ f3) && decide (f3 ≤ k - 1)))) := by
 have e : wrap64 (k - 1) = k - 1 := w64 (by omega) (by omega)
 refine ev_end (fun n => ?_)
 rw [spec_l03Node.j0, e]
 simp only [spec_In_b, spec_One_f, Option.bind_some, beq_dec]
 cases c with
 | true => rw [if_pos rfl]; rfl
 | false =>
  rw [if_neg (by simp)]
  by_cases h : f0 = 3 ∨ f0 = 6
  ·rw [if_pos (by simpa using h), if_pos h]; simp
  ·rw [if_neg (by simpa using h), if_neg h]; simp
theorem spec_l03Node_f (f0 f1 f2 f3 k : Int) (hk : 0 ≤ k ∧ k ≤ 9223372036854775807) : Ev (fun n => spec_l03Node.f n f0 f1 f2 f3 k) (nodeB f0 f1 f2 f3 k) := by
 have e : wrap64 (k - 1) = k - 1 := w64 (by omega) (by omega)
 unfold spec_l03Node.f
 rw [e]
 simp only [spec_In_b, Option.bind_some, beq_dec]
 unfold nodeB
 by_cases h9 : (decide (1 ≤ f0) && decide (f0 ≤ 9)) = true
 ·refine evT h9 ?_
  simp only [Bool.and_eq_true, decide_eq_true_eq] at h9
  by_cases h1 : f0 = 1
  ·refine ev_cast (evT h1 (ev_some ?_)) (if_pos h1).symm
   by_cases h2 : (decide (0 ≤ f1) && decide (f1 ≤ 999999)) = true
   ·rw [if_pos h2, h2]
    by_cases h3 : f2 = 0
    ·rw [if_pos h3]; simp [h3]
    ·rw [if_neg h3]; simp [h3]
   ·rw [if_neg h2]; simp only [Bool.not_eq_true] at h2; rw [h2]; simp
  ·refine ev_cast (evF h1 ?_) (if_neg h1).symm
   by_cases hn : f1 = 0
   ·refine evT hn (ev_cast (spec_l03Node_j0 f0 f1 f2 f3 k hk _) ?_)
    rw [Bool.not_not]
    by_cases h : f0 = 3 ∨ f0 = 6
    ·rw [if_pos h, if_pos h]; simp [hn]
    ·rw [if_neg h, if_neg h]
     have h2 : 2 ≤ f0 := by omega
     simp [hn, h2, h9.2]
   ·refine evF hn (ev_cast (spec_l03Node_j0 f0 f1 f2 f3 k hk _) ?_)
    by_cases h : f0 = 3 ∨ f0 = 6
    ·rw [if_pos h, if_pos h]; simp [hn]
    ·rw [if_neg h, if_neg h]; simp [hn]
 ·refine ev_cast (evF h9 (Ev.now _)) ?_
  simp only [Bool.and_eq_true, decide_eq_true_eq] at h9
  rw [if_neg (by omega), if_neg (by omega)]
  by_cases h2 : 2 ≤ f0
  ·have : ¬ f0 ≤ 9 := by omega
   simp [this]
  ·simp [h2]

/-! the place of the first node that is one -/
def atV (l : List S34) (x : S34) : Int := match l.findIdx? (fun y => sameN y x) with
  | some i => (i : Int)
  | none => -1
theorem sameN_def (y x : S34) : (y.f0 == x.f0 && (y.f1 == x.f1 && (y.f2 == x.f2 && (y.f3 == x.f3)))) = sameN y x := by
 unfold sameN
 simp only [Bool.and_assoc]
theorem atV_hit {l : List S34} {x : S34} {i : Nat} (h : i < l.length) (hi : sameN l[i] x = true) (hno : ∀ j (hj : j < i), sameN (l[j]'(by omega)) x = false) : atV l x = (i : Int) := by
 have : l.findIdx? (fun y => sameN y x) = some i := by
  rw [List.findIdx?_eq_some_iff_getElem]
  exact ⟨h, hi, fun j hj => by simpa using hno j hj⟩
 unfold atV
 rw [this]
theorem atV_miss {l : List S34} {x : S34} (hno : ∀ j (hj : j < l.length), sameN l[j] x = false) : atV l x = -1 := by
 have : l.findIdx? (fun y => sameN y x) = none := by
  rw [List.findIdx?_eq_none_iff]
  intro y hy
  obtain ⟨j, hj, rfl⟩ := List.getElem_of_mem hy
  exact hno j hj
 unfold atV
 rw [this]
theorem spec_At_ev (l : List S34) (hl : l.length ≤ 1048576) (x : S34) : ∀ (d i : Nat), l.length - i = d → i ≤ l.length → (∀ j (hj : j < l.length), j < i → sameN l[j] x = false) → Ev (fun k => spec_l03At.l0 k l (i : Int) x.f0 x.f1 x.f2 x.f3) (atV l x) := by
 intro d
 induction d with
 | zero =>
  intro i hd hi hno
  rw [atV_miss (fun j hj => hno j hj (by omega))]
  exact ev_end (fun k => by rw [spec_l03At.l0, if_neg (by omega)])
 | succ d ih =>
  intro i hd hi hno
  have hlt : i < l.length := by omega
  refine Ev.step (fun k => by rw [spec_l03At.l0, if_pos (by omega), if_pos (by omega), rdI hlt, sameN_def, w64 (x := (i : Int) + 1) (by omega) (by omega)]) ?_
  by_cases hs : sameN l[i] x = true
  ·refine ev_cast (evT hs (Ev.now _)) ?_
   rw [atV_hit hlt hs (fun j hj => hno j (by omega) hj)]
  ·refine evF hs ?_
   refine ih (i + 1) (by omega) (by omega) (fun j hj hji => ?_)
   by_cases e : j = i
   ·subst e
    simpa using hs
   ·exact hno j hj (by omega)
theorem spec_At_f (l : List S34) (hl : l.length ≤ 1048576) (x : S34) : Ev (fun k => spec_l03At.f k l x.f0 x.f1 x.f2 x.f3) (atV l x) :=
  spec_At_ev l hl x l.length 0 (by omega) (by omega) (fun j _ h => by omega)
theorem sameN_refl (x : S34) : sameN x x = true := by simp [sameN]
theorem sameN_eq {x y : S34} (h : sameN x y = true) : x = y := by
 cases x
 cases y
 simp [sameN] at h
 simp [h]
theorem nodeOf_get {l : List S34} {j : Nat} (h : j < l.length) : nodeOf l j = l[j] := rdI h
/-- a node is the first of its kind just where it is no repeat -/
theorem atV_self {l : List S34} {j : Nat} (h : j < l.length) : atV l (nodeOf l j) = (j : Int) ↔ dupAt l j = false := by
 rw [nodeOf_get h]
 unfold dupAt
 rw [nodeOf_get h, List.any_eq_false]
 constructor
 ·intro he y hy hs
  obtain ⟨i, hi, rfl⟩ := List.getElem_of_mem hy
  have hi2 : i < j := by have h3 := hi; rw [List.length_take] at h3; omega
  rw [List.getElem_take] at hs
  unfold atV at he
  cases hf : l.findIdx? (fun y => sameN y l[j]) with
  | none => rw [hf] at he; have he2 : (-1 : Int) = (j : Int) := he; omega
  | some m =>
   rw [hf] at he
   have he2 : (m : Int) = (j : Int) := he
   rw [List.findIdx?_eq_some_iff_getElem] at hf
   obtain ⟨hm, _, hno⟩ := hf
   have := hno i (by omega)
   simp only [Bool.not_eq_true, Bool.not_eq_false'] at this
   simp [hs] at this
 ·intro hall
  refine atV_hit h (sameN_refl _) (fun i hi => ?_)
  have := hall (l[i]'(by omega)) (by
   rw [List.mem_iff_getElem]
   exact ⟨i, by rw [List.length_take]; omega, by rw [List.getElem_take]⟩)
  simpa using this

/-! Put: a node found, or put behind; -1: it can't be -/
def putN (l : List S34) (x : S34) : List S34 × Int :=
  if nodeB x.f0 x.f1 x.f2 x.f3 (l.length : Int) = true then
    (if 0 ≤ atV l x then (l, atV l x) else if 3000 ≤ l.length then (l, -1) else (l ++ [x], (l.length : Int)))
  else (l, -1)
/-- the same on a bench, which may be bad -/
theorem atV_cases (l : List S34) (x : S34) : atV l x = -1 ∨ (0 ≤ atV l x ∧ atV l x < (l.length : Int) ∧ nodeOf l (atV l x).toNat = x) := by
 unfold atV
 cases hf : l.findIdx? (fun y => sameN y x) with
 | none => exact .inl rfl
 | some m =>
  right
  rw [List.findIdx?_eq_some_iff_getElem] at hf
  obtain ⟨hm, hs, _⟩ := hf
  refine ⟨by simp only; omega, by simp only; omega, ?_⟩
  simp only [Int.toNat_natCast]
  rw [nodeOf_get hm]
  exact sameN_eq (by simpa using hs)
theorem putN_cases (l : List S34) (x : S34) : ((putN l x).1 = l ∧ (putN l x).2 = -1) ∨
  (nodeB x.f0 x.f1 x.f2 x.f3 (l.length : Int) = true ∧ 0 ≤ (putN l x).2 ∧ (((putN l x).1 = l ∧ (putN l x).2 < (l.length : Int) ∧ (putN l x).2 = atV l x) ∨ (atV l x = -1 ∧ l.length < 3000 ∧ (putN l x).1 = l ++ [x] ∧ (putN l x).2 = (l.length : Int)))) := by
 unfold putN
 by_cases h : nodeB x.f0 x.f1 x.f2 x.f3 (l.length : Int) = true
 ·rw [if_pos h]
  rcases atV_cases l x with ha | ⟨h0, h1, _⟩
  ·rw [if_neg (by omega)]
   by_cases h3 : 3000 ≤ l.length
   ·rw [if_pos h3]; exact .inl ⟨rfl, rfl⟩
   ·rw [if_neg h3]; exact .inr ⟨h, by simp only; omega, .inr ⟨ha, by omega, rfl, rfl⟩⟩
  ·rw [if_pos h0]
   exact .inr ⟨h, h0, .inl ⟨rfl, h1, rfl⟩⟩
 ·rw [if_neg h]; exact .inl ⟨rfl, rfl⟩

/-! an arena behind a pointer, and its row in the call's own memory -/
def ArAt (w : World) (base g : Nat) (ok : Nat → Prop) (l : List S34) : Prop :=
  ∃ v, w.heap[g]? = some (.cells #[v] 26 (0, 0)) ∧ base ≤ g ∧ ¬ ok g ∧ Kd.R k34 34 w base ok v l
def Mine (g : Nat) (ok : Nat → Prop) (k : Nat) : Prop := k = g ∨ ok k
theorem ArAt.len {w : World} {base g : Nat} {ok : Nat → Prop} {l : List S34} (h : ArAt w base g ok l) : l.length ≤ 9223372036854775807 := by
 obtain ⟨v, _, _, _, hR⟩ := h
 obtain ⟨A, c, _, _, hC⟩ := Kd.R_reads hR
 exact hC.2.1
/-- what came in and stays -/
theorem ArAt.keep {w w1 : World} {base g : Nat} {ok : Nat → Prop} {l : List S34} (h : ArAt w base g ok l) (hb : Below w.heap.size w w1) : ArAt w1 base g ok l := by
 obtain ⟨v, h1, h2, h3, hR⟩ := h
 exact ⟨v, (hb.block g (blk_lt h1)).trans h1, h2, h3, Kd.R_below hR hb⟩
/-! a bench behind a pointer -/
def BnAt (w : World) (base g : Nat) (ok : Nat → Prop) (l : List S34) (bad : Bool) : Prop :=
  ∃ v, w.heap[g]? = some (.cells #[v, .bool bad] 132 (0, 0)) ∧ base ≤ g ∧ ¬ ok g ∧ Kd.R k34 34 w base ok v l
theorem BnAt.keep {w w1 : World} {base g : Nat} {ok : Nat → Prop} {l : List S34} {bad : Bool} (h : BnAt w base g ok l bad) (hb : Below w.heap.size w w1) : BnAt w1 base g ok l bad := by
 obtain ⟨v, h1, h2, h3, hR⟩ := h
 exact ⟨v, (hb.block g (blk_lt h1)).trans h1, h2, h3, Kd.R_below hR hb⟩

/-! List: a chain of pairs -/
/-- a bench's state and a place -/
def PutPost (w : World) (base g : Nat) (ok : Nat → Prop) (l : List S34) (n : Int) (e : Ending) (w' : World) : Prop := e = .returned (.int .i64 n) ∧ ArAt w' base g ok l ∧ Below base w w' ∧ Kept w w' (Mine g ok)
set_option maxHeartbeats 8000000 in
set_option maxRecDepth 100000 in
theorem spec_l03Put_at (l : List S34) (x : S34) (w : World) (base g : Nat) (ok : Nat → Prop) (hA : ArAt w base g ok l) (hbase : base ≤ w.heap.size) (hfresh : ∀ k, w.heap.size ≤ k → ok k) (hl : l.length ≤ 1048576) :
  Calls Try.prog 113 #[.pointer (some ⟨g, 0, none⟩), .agg #[.int .i64 x.f0, .int .i64 x.f1, .int .i64 x.f2, .int .i64 x.f3]] w (PutPost w base g ok (putN l x).1 (putN l x).2) := by
 have hu26 := Try.underlying26
 have hu34 := Try.underlying34
 obtain ⟨v, hblk, hbg, hno, hR⟩ := hA
 obtain ⟨A, c, rfl, hlc, hC⟩ := Kd.R_reads hR
 obtain ⟨kn, hK⟩ := spec_l03Node_f x.f0 x.f1 x.f2 x.f3 (l.length : Int) (by omega)
 have HK := Aside0.mk (hK kn (Nat.le_refl _))
 obtain ⟨ka, hK2⟩ := spec_At_f l hl x
 have HK2 := Aside0.mk (hK2 ka (Nat.le_refl _))
 have HG0 := Aside0.mk hblk
 have HR := Aside0.mk hR
 have HC := Aside0.mk hC
 have HL := Aside0.mk hl
 have HBG := Aside0.mk hbg
 have HNO := Aside0.mk hno
 have HBS := Aside0.mk hbase
 have HF := Aside0.mk hfresh
 have HLC := Aside0.mk hlc
 clear hK hK2 hblk hR hC hl hbg hno hbase hfresh hlc
 have hbl : base ≤ w.heap.size := HBS.out
 by_cases hb : nodeB x.f0 x.f1 x.f2 x.f3 (l.length : Int) = true
 ·rw [hb] at HK
  clear hbl
  rcases atV_cases l x with ha | ⟨ha, ha1, _⟩
  ·have ha0 : ¬ 0 ≤ atV l x := by omega
   rw [ha] at HK2
   by_cases h3 : 3000 ≤ l.length
   ·have he : putN l x = (l, -1) := by unfold putN; rw [if_pos hb, if_neg ha0, if_pos h3]
    have HE := Aside0.mk he
    have h30 : decide (3000 ≤ (l.length : Int)) = true := decide_eq_true (by omega)
    have h31 : decide (3000 ≤ l.length) = true := decide_eq_true h3
    clear he hb ha ha0 h3
    go_enter Try.func113, Try.ntmps113
    go_wp2_with (first | ((with_reducible refine gate_dst (N := 3) rfl ?_); refine box_event ?hg (N := 3) ?hd (cs := #[.int .i64 x.f0, .int .i64 x.f1, .int .i64 x.f2, .int .i64 x.f3]) (t := 34) ?hr ?_; (case hd => rfl); (case hg => rfl); (case hr => first | (go_simp; done) | (go_simp; rfl)); intro gb hg1 w3 hbox hb; have BK3 := Aside0.mk hbox; have HB3 := Aside0.mk hb; have GB3 := Aside0.mk hg1; clear hg1 hbox hb))
    have HG3 := Aside0.mk (blk_below HG0.out HB3.out)
    refine start_ (n := 8) (S := fun w' => w'.cell? ⟨g, 0, none⟩ = some (.slice A l.length c) ∧ w'.cell? ⟨gb, 0, none⟩ = some (.int .i64 x.f0) ∧ w'.cell? ⟨gb, 1, none⟩ = some (.int .i64 x.f1) ∧ w'.cell? ⟨gb, 2, none⟩ = some (.int .i64 x.f2) ∧ w'.cell? ⟨gb, 3, none⟩ = some (.int .i64 x.f3)) (ds := []) #[false, false, false, false, false, false, false, false] (by kernel_rfl) rfl rfl ⟨(blk_cell (blk_drew HG3.out) 0).trans rfl, (blk_cell (blk_drew BK3.out) 0).trans rfl, (blk_cell (blk_drew BK3.out) 1).trans rfl, (blk_cell (blk_drew BK3.out) 2).trans rfl, (blk_cell (blk_drew BK3.out) 3).trans rfl⟩ (fun hHeld => ?_)
    refine pure_ (i := 1) (N := some 7) (v := ?_) (a' := ?_) #[false, true, false, false, false, false, false, false] rfl rfl (by kernel_rfl) (fun _ _ _ h => h) (Or.inl ⟨by rfl, ?_⟩) ?_ ?_
    rotate_left
    ·intro w'
     go_simp
     with_reducible rfl
    rotate_left
    ·simp only [Act.put, List.setIfInBounds_toArray, List.set_cons_zero, List.set_cons_succ, i64_w, i32_w]
     rfl
    refine pure_ (i := 2) (N := some 8) (v := ?_) (a' := ?_) #[false, true, true, false, false, false, false, false] rfl rfl (by kernel_rfl) (fun _ _ _ h => h) (Or.inl ⟨by rfl, ?_⟩) ?_ ?_
    rotate_left
    ·intro w'
     go_simp
     with_reducible rfl
    rotate_left
    ·simp only [Act.put, List.setIfInBounds_toArray, List.set_cons_zero, List.set_cons_succ, i64_w, i32_w]
     rfl
    refine pure_ (i := 3) (N := some 9) (v := ?_) (a' := ?_) #[false, true, true, true, false, false, false, false] rfl rfl (by kernel_rfl) (fun _ _ _ h => h) (Or.inl ⟨by rfl, ?_⟩) ?_ ?_
    rotate_left
    ·intro w'
     go_simp
     with_reducible rfl
    rotate_left
    ·simp only [Act.put, List.setIfInBounds_toArray, List.set_cons_zero, List.set_cons_succ, i64_w, i32_w]
     rfl
    refine take_ (i := 0) (N := some 6) (v := ?_) (a' := ?_) #[true, true, true, true, false, false, false, false] rfl rfl (by kernel_rfl) (fun _ _ _ h => h) (Or.inl ⟨by rfl, ?_⟩) hHeld ?_ ?_
    rotate_left
    ·rintro w' ⟨s0, s1, s2, s3, s4⟩
     go_simp
     with_reducible rfl
    rotate_left
    ·simp only [Act.put, List.setIfInBounds_toArray, List.set_cons_zero, List.set_cons_succ, i64_w, i32_w]
     rfl
    refine take_ (i := 4) (N := some 10) (v := ?_) (a' := ?_) #[true, true, true, true, true, false, false, false] rfl rfl (by kernel_rfl) (fun _ _ _ h => h) (Or.inl ⟨by rfl, ?_⟩) hHeld ?_ ?_
    rotate_left
    ·rintro w' ⟨s0, s1, s2, s3, s4⟩
     go_simp
     with_reducible rfl
    rotate_left
    ·simp only [Act.put, List.setIfInBounds_toArray, List.set_cons_zero, List.set_cons_succ, i64_w, i32_w]
     rfl
    refine pure_ (i := 5) (N := some 11) (v := ?_) (a' := ?_) #[true, true, true, true, true, true, false, false] rfl rfl (by kernel_rfl) (fun _ _ _ h => h) (Or.inl ⟨by rfl, ?_⟩) ?_ ?_
    rotate_left
    ·intro w'
     go_simp
     with_reducible rfl
    rotate_left
    ·simp only [Act.put, List.setIfInBounds_toArray, List.set_cons_zero, List.set_cons_succ, i64_w, i32_w]
     rfl
    refine one_ (i := 6) (N := some 12) #[true, true, true, true, true, true, true, false] rfl rfl (by kernel_rfl) (by decide) (fun K hK => ?_)
    refine goes_ Try.func81 (by kernel_rfl) rfl #[.agg #[.int .i64 x.f0, .int .i64 x.f1, .int .i64 x.f2, .int .i64 x.f3], .int .i64 (l.length : Int)] (by rfl) rfl rfl (by simp only [List.map_toArray, List.map_cons, List.map_nil]; rfl) ?_
    with_reducible refine (spec_l03Node.calls kn x.f0 x.f1 x.f2 x.f3 (l.length : Int) true _ HK.out).mono ?_
    rintro e w4 ⟨rfl, hb4⟩
    refine ⟨_, rfl, ?_⟩
    have HG4 := Aside0.mk (blk_below (blk_drew HG3.out) hb4)
    have BK4 := Aside0.mk (blk_below (blk_drew BK3.out) hb4)
    have HB4 := Aside0.mk (below_step (below_drew1 HB3.out) hb4)
    clear hb4
    refine hK.out _ _ ⟨(blk_cell (HG4.out) 0).trans rfl, (blk_cell (BK4.out) 0).trans rfl, (blk_cell (BK4.out) 1).trans rfl, (blk_cell (BK4.out) 2).trans rfl, (blk_cell (BK4.out) 3).trans rfl⟩ (fun hHeld => ?_)
    clear hK K
    refine norm_ (a' := ?_) ?_ ?_
    rotate_left
    ·show Act.put _ (some 12) _ = _
     simp only [Act.put, List.setIfInBounds_toArray, List.set_cons_zero, List.set_cons_succ, i64_w, i32_w]
     rfl
    refine pure_ (i := 7) (N := some 13) (v := ?_) (a' := ?_) #[true, true, true, true, true, true, true, true] rfl rfl (by kernel_rfl) (fun _ _ _ h => h) (Or.inl ⟨by rfl, ?_⟩) ?_ ?_
    rotate_left
    ·intro w'
     go_simp
     with_reducible rfl
    rotate_left
    ·simp only [Act.put, List.setIfInBounds_toArray, List.set_cons_zero, List.set_cons_succ, i64_w, i32_w]
     rfl
    refine done_ (by kernel_rfl) ?_
    have hn0 : w4.cell? ⟨gb, 0, none⟩ = some (.int .i64 x.f0) := (blk_cell BK4.out 0).trans rfl
    have hn1 : w4.cell? ⟨gb, 1, none⟩ = some (.int .i64 x.f1) := (blk_cell BK4.out 1).trans rfl
    have hn2 : w4.cell? ⟨gb, 2, none⟩ = some (.int .i64 x.f2) := (blk_cell BK4.out 2).trans rfl
    have hn3 : w4.cell? ⟨gb, 3, none⟩ = some (.int .i64 x.f3) := (blk_cell BK4.out 3).trans rfl
    have hf0 := blk_frozen BK4.out 0
    have hf1 := blk_frozen BK4.out 1
    have hf2 := blk_frozen BK4.out 2
    have hf3 := blk_frozen BK4.out 3
    have hg0 : w4.cell? ⟨g, 0, none⟩ = some (.slice A l.length c) := (blk_cell HG4.out 0).trans rfl
    have hgf := blk_frozen HG4.out 0
    go_wp2
    refine start_ (n := 7) (S := fun w' => w'.cell? ⟨g, 0, none⟩ = some (.slice A l.length c) ∧ w'.cell? ⟨gb, 0, none⟩ = some (.int .i64 x.f0) ∧ w'.cell? ⟨gb, 1, none⟩ = some (.int .i64 x.f1) ∧ w'.cell? ⟨gb, 2, none⟩ = some (.int .i64 x.f2) ∧ w'.cell? ⟨gb, 3, none⟩ = some (.int .i64 x.f3)) (ds := []) #[false, false, false, false, false, false, false] (by kernel_rfl) rfl rfl ⟨(blk_cell (blk_drew HG4.out) 0).trans rfl, (blk_cell (blk_drew BK4.out) 0).trans rfl, (blk_cell (blk_drew BK4.out) 1).trans rfl, (blk_cell (blk_drew BK4.out) 2).trans rfl, (blk_cell (blk_drew BK4.out) 3).trans rfl⟩ (fun hHeld => ?_)
    refine pure_ (i := 0) (N := some 14) (v := ?_) (a' := ?_) #[true, false, false, false, false, false, false] rfl rfl (by kernel_rfl) (fun _ _ _ h => h) (Or.inl ⟨by rfl, ?_⟩) ?_ ?_
    rotate_left
    ·intro w'
     go_simp
     with_reducible rfl
    rotate_left
    ·simp only [Act.put, List.setIfInBounds_toArray, List.set_cons_zero, List.set_cons_succ, i64_w, i32_w]
     rfl
    refine pure_ (i := 1) (N := some 15) (v := ?_) (a' := ?_) #[true, true, false, false, false, false, false] rfl rfl (by kernel_rfl) (fun _ _ _ h => h) (Or.inl ⟨by rfl, ?_⟩) ?_ ?_
    rotate_left
    ·intro w'
     go_simp
     with_reducible rfl
    rotate_left
    ·simp only [Act.put, List.setIfInBounds_toArray, List.set_cons_zero, List.set_cons_succ, i64_w, i32_w]
     rfl
    refine pure_ (i := 2) (N := some 16) (v := ?_) (a' := ?_) #[true, true, true, false, false, false, false] rfl rfl (by kernel_rfl) (fun _ _ _ h => h) (Or.inl ⟨by rfl, ?_⟩) ?_ ?_
    rotate_left
    ·intro w'
     go_simp
     with_reducible rfl
    rotate_left
    ·simp only [Act.put, List.setIfInBounds_toArray, List.set_cons_zero, List.set_cons_succ, i64_w, i32_w]
     rfl
    refine take_ (i := 3) (N := some 17) (v := ?_) (a' := ?_) #[true, true, true, true, false, false, false] rfl rfl (by kernel_rfl) (fun _ _ _ h => h) (Or.inl ⟨by rfl, ?_⟩) hHeld ?_ ?_
    rotate_left
    ·rintro w' ⟨s0, s1, s2, s3, s4⟩
     go_simp
     with_reducible rfl
    rotate_left
    ·simp only [Act.put, List.setIfInBounds_toArray, List.set_cons_zero, List.set_cons_succ, i64_w, i32_w]
     rfl
    refine take_ (i := 4) (N := some 18) (v := ?_) (a' := ?_) #[true, true, true, true, true, false, false] rfl rfl (by kernel_rfl) (fun _ _ _ h => h) (Or.inl ⟨by rfl, ?_⟩) hHeld ?_ ?_
    rotate_left
    ·rintro w' ⟨s0, s1, s2, s3, s4⟩
     go_simp
     with_reducible rfl
    rotate_left
    ·simp only [Act.put, List.setIfInBounds_toArray, List.set_cons_zero, List.set_cons_succ, i64_w, i32_w]
     rfl
    refine one_ (i := 5) (N := some 19) #[true, true, true, true, true, true, false] rfl rfl (by kernel_rfl) (by decide) (fun K hK => ?_)
    refine goes_ Try.func82 (by kernel_rfl) rfl #[.slice A l.length c, .agg #[.int .i64 x.f0, .int .i64 x.f1, .int .i64 x.f2, .int .i64 x.f3]] (by rfl) rfl rfl (by simp only [List.map_toArray, List.map_cons, List.map_nil]; rfl) ?_
    with_reducible refine (spec_l03At.calls ka A c l x.f0 x.f1 x.f2 x.f3 (-1) _ (Kd.C_below HC.out (below_drew1 HB4.out)) HLC.out HK2.out).mono ?_
    rintro e w5 ⟨rfl, hb5⟩
    refine ⟨_, rfl, ?_⟩
    have HG5 := Aside0.mk (blk_below (blk_drew HG4.out) hb5)
    have BK5 := Aside0.mk (blk_below (blk_drew BK4.out) hb5)
    have HB5 := Aside0.mk (below_step (below_drew1 HB4.out) hb5)
    clear hb5
    refine hK.out _ _ ⟨(blk_cell (HG5.out) 0).trans rfl, (blk_cell (BK5.out) 0).trans rfl, (blk_cell (BK5.out) 1).trans rfl, (blk_cell (BK5.out) 2).trans rfl, (blk_cell (BK5.out) 3).trans rfl⟩ (fun hHeld => ?_)
    clear hK K
    refine norm_ (a' := ?_) ?_ ?_
    rotate_left
    ·show Act.put _ (some 19) _ = _
     simp only [Act.put, List.setIfInBounds_toArray, List.set_cons_zero, List.set_cons_succ, i64_w, i32_w]
     rfl
    refine pure_ (i := 6) (N := some 5) (v := ?_) (a' := ?_) #[true, true, true, true, true, true, true] rfl rfl (by kernel_rfl) (fun _ _ _ h => h) (Or.inl ⟨by rfl, ?_⟩) ?_ ?_
    rotate_left
    ·intro w'
     go_simp
     with_reducible rfl
    rotate_left
    ·simp only [Act.put, List.setIfInBounds_toArray, List.set_cons_zero, List.set_cons_succ, i64_w, i32_w]
     rfl
    refine done_ (by kernel_rfl) ?_
    have hn0 : w5.cell? ⟨gb, 0, none⟩ = some (.int .i64 x.f0) := (blk_cell BK5.out 0).trans rfl
    have hn1 : w5.cell? ⟨gb, 1, none⟩ = some (.int .i64 x.f1) := (blk_cell BK5.out 1).trans rfl
    have hn2 : w5.cell? ⟨gb, 2, none⟩ = some (.int .i64 x.f2) := (blk_cell BK5.out 2).trans rfl
    have hn3 : w5.cell? ⟨gb, 3, none⟩ = some (.int .i64 x.f3) := (blk_cell BK5.out 3).trans rfl
    have hf0 := blk_frozen BK5.out 0
    have hf1 := blk_frozen BK5.out 1
    have hf2 := blk_frozen BK5.out 2
    have hf3 := blk_frozen BK5.out 3
    have hg0 : w5.cell? ⟨g, 0, none⟩ = some (.slice A l.length c) := (blk_cell HG5.out 0).trans rfl
    have hgf := blk_frozen HG5.out 0
    go_wp2
    go_ret
    rw [HE.out]
    exact ⟨rfl, ⟨_, HG5.out, HBG.out, HNO.out, Kd.R_below HR.out HB5.out⟩, HB5.out.mono HBS.out, Kept.of_below HB5.out _⟩
   ·have he : putN l x = (l ++ [x], (l.length : Int)) := by unfold putN; rw [if_pos hb, if_neg ha0, if_neg h3]
    have HE := Aside0.mk he
    have h30 : decide (3000 ≤ (l.length : Int)) = false := decide_eq_false (by omega)
    have h31 : decide (3000 ≤ l.length) = false := decide_eq_false h3
    have H3 := Aside0.mk h3
    clear he hb ha ha0 h3
    go_enter Try.func113, Try.ntmps113
    go_wp2_with (first | ((with_reducible refine gate_dst (N := 3) rfl ?_); refine box_event ?hg (N := 3) ?hd (cs := #[.int .i64 x.f0, .int .i64 x.f1, .int .i64 x.f2, .int .i64 x.f3]) (t := 34) ?hr ?_; (case hd => rfl); (case hg => rfl); (case hr => first | (go_simp; done) | (go_simp; rfl)); intro gb hg1 w3 hbox hb; have BK3 := Aside0.mk hbox; have HB3 := Aside0.mk hb; have GB3 := Aside0.mk hg1; clear hg1 hbox hb))
    have HG3 := Aside0.mk (blk_below HG0.out HB3.out)
    refine start_ (n := 8) (S := fun w' => w'.cell? ⟨g, 0, none⟩ = some (.slice A l.length c) ∧ w'.cell? ⟨gb, 0, none⟩ = some (.int .i64 x.f0) ∧ w'.cell? ⟨gb, 1, none⟩ = some (.int .i64 x.f1) ∧ w'.cell? ⟨gb, 2, none⟩ = some (.int .i64 x.f2) ∧ w'.cell? ⟨gb, 3, none⟩ = some (.int .i64 x.f3)) (ds := []) #[false, false, false, false, false, false, false, false] (by kernel_rfl) rfl rfl ⟨(blk_cell (blk_drew HG3.out) 0).trans rfl, (blk_cell (blk_drew BK3.out) 0).trans rfl, (blk_cell (blk_drew BK3.out) 1).trans rfl, (blk_cell (blk_drew BK3.out) 2).trans rfl, (blk_cell (blk_drew BK3.out) 3).trans rfl⟩ (fun hHeld => ?_)
    refine pure_ (i := 1) (N := some 7) (v := ?_) (a' := ?_) #[false, true, false, false, false, false, false, false] rfl rfl (by kernel_rfl) (fun _ _ _ h => h) (Or.inl ⟨by rfl, ?_⟩) ?_ ?_
    rotate_left
    ·intro w'
     go_simp
     with_reducible rfl
    rotate_left
    ·simp only [Act.put, List.setIfInBounds_toArray, List.set_cons_zero, List.set_cons_succ, i64_w, i32_w]
     rfl
    refine pure_ (i := 2) (N := some 8) (v := ?_) (a' := ?_) #[false, true, true, false, false, false, false, false] rfl rfl (by kernel_rfl) (fun _ _ _ h => h) (Or.inl ⟨by rfl, ?_⟩) ?_ ?_
    rotate_left
    ·intro w'
     go_simp
     with_reducible rfl
    rotate_left
    ·simp only [Act.put, List.setIfInBounds_toArray, List.set_cons_zero, List.set_cons_succ, i64_w, i32_w]
     rfl
    refine pure_ (i := 3) (N := some 9) (v := ?_) (a' := ?_) #[false, true, true, true, false, false, false, false] rfl rfl (by kernel_rfl) (fun _ _ _ h => h) (Or.inl ⟨by rfl, ?_⟩) ?_ ?_
    rotate_left
    ·intro w'
     go_simp
     with_reducible rfl
    rotate_left
    ·simp only [Act.put, List.setIfInBounds_toArray, List.set_cons_zero, List.set_cons_succ, i64_w, i32_w]
     rfl
    refine take_ (i := 0) (N := some 6) (v := ?_) (a' := ?_) #[true, true, true, true, false, false, false, false] rfl rfl (by kernel_rfl) (fun _ _ _ h => h) (Or.inl ⟨by rfl, ?_⟩) hHeld ?_ ?_
    rotate_left
    ·rintro w' ⟨s0, s1, s2, s3, s4⟩
     go_simp
     with_reducible rfl
    rotate_left
    ·simp only [Act.put, List.setIfInBounds_toArray, List.set_cons_zero, List.set_cons_succ, i64_w, i32_w]
     rfl
    refine take_ (i := 4) (N := some 10) (v := ?_) (a' := ?_) #[true, true, true, true, true, false, false, false] rfl rfl (by kernel_rfl) (fun _ _ _ h => h) (Or.inl ⟨by rfl, ?_⟩) hHeld ?_ ?_
    rotate_left
    ·rintro w' ⟨s0, s1, s2, s3, s4⟩
     go_simp
     with_reducible rfl
    rotate_left
    ·simp only [Act.put, List.setIfInBounds_toArray, List.set_cons_zero, List.set_cons_succ, i64_w, i32_w]
     rfl
    refine pure_ (i := 5) (N := some 11) (v := ?_) (a' := ?_) #[true, true, true, true, true, true, false, false] rfl rfl (by kernel_rfl) (fun _ _ _ h => h) (Or.inl ⟨by rfl, ?_⟩) ?_ ?_
    rotate_left
    ·intro w'
     go_simp
     with_reducible rfl
    rotate_left
    ·simp only [Act.put, List.setIfInBounds_toArray, List.set_cons_zero, List.set_cons_succ, i64_w, i32_w]
     rfl
    refine one_ (i := 6) (N := some 12) #[true, true, true, true, true, true, true, false] rfl rfl (by kernel_rfl) (by decide) (fun K hK => ?_)
    refine goes_ Try.func81 (by kernel_rfl) rfl #[.agg #[.int .i64 x.f0, .int .i64 x.f1, .int .i64 x.f2, .int .i64 x.f3], .int .i64 (l.length : Int)] (by rfl) rfl rfl (by simp only [List.map_toArray, List.map_cons, List.map_nil]; rfl) ?_
    with_reducible refine (spec_l03Node.calls kn x.f0 x.f1 x.f2 x.f3 (l.length : Int) true _ HK.out).mono ?_
    rintro e w4 ⟨rfl, hb4⟩
    refine ⟨_, rfl, ?_⟩
    have HG4 := Aside0.mk (blk_below (blk_drew HG3.out) hb4)
    have BK4 := Aside0.mk (blk_below (blk_drew BK3.out) hb4)
    have HB4 := Aside0.mk (below_step (below_drew1 HB3.out) hb4)
    clear hb4
    refine hK.out _ _ ⟨(blk_cell (HG4.out) 0).trans rfl, (blk_cell (BK4.out) 0).trans rfl, (blk_cell (BK4.out) 1).trans rfl, (blk_cell (BK4.out) 2).trans rfl, (blk_cell (BK4.out) 3).trans rfl⟩ (fun hHeld => ?_)
    clear hK K
    refine norm_ (a' := ?_) ?_ ?_
    rotate_left
    ·show Act.put _ (some 12) _ = _
     simp only [Act.put, List.setIfInBounds_toArray, List.set_cons_zero, List.set_cons_succ, i64_w, i32_w]
     rfl
    refine pure_ (i := 7) (N := some 13) (v := ?_) (a' := ?_) #[true, true, true, true, true, true, true, true] rfl rfl (by kernel_rfl) (fun _ _ _ h => h) (Or.inl ⟨by rfl, ?_⟩) ?_ ?_
    rotate_left
    ·intro w'
     go_simp
     with_reducible rfl
    rotate_left
    ·simp only [Act.put, List.setIfInBounds_toArray, List.set_cons_zero, List.set_cons_succ, i64_w, i32_w]
     rfl
    refine done_ (by kernel_rfl) ?_
    have hn0 : w4.cell? ⟨gb, 0, none⟩ = some (.int .i64 x.f0) := (blk_cell BK4.out 0).trans rfl
    have hn1 : w4.cell? ⟨gb, 1, none⟩ = some (.int .i64 x.f1) := (blk_cell BK4.out 1).trans rfl
    have hn2 : w4.cell? ⟨gb, 2, none⟩ = some (.int .i64 x.f2) := (blk_cell BK4.out 2).trans rfl
    have hn3 : w4.cell? ⟨gb, 3, none⟩ = some (.int .i64 x.f3) := (blk_cell BK4.out 3).trans rfl
    have hf0 := blk_frozen BK4.out 0
    have hf1 := blk_frozen BK4.out 1
    have hf2 := blk_frozen BK4.out 2
    have hf3 := blk_frozen BK4.out 3
    have hg0 : w4.cell? ⟨g, 0, none⟩ = some (.slice A l.length c) := (blk_cell HG4.out 0).trans rfl
    have hgf := blk_frozen HG4.out 0
    go_wp2
    refine start_ (n := 7) (S := fun w' => w'.cell? ⟨g, 0, none⟩ = some (.slice A l.length c) ∧ w'.cell? ⟨gb, 0, none⟩ = some (.int .i64 x.f0) ∧ w'.cell? ⟨gb, 1, none⟩ = some (.int .i64 x.f1) ∧ w'.cell? ⟨gb, 2, none⟩ = some (.int .i64 x.f2) ∧ w'.cell? ⟨gb, 3, none⟩ = some (.int .i64 x.f3)) (ds := []) #[false, false, false, false, false, false, false] (by kernel_rfl) rfl rfl ⟨(blk_cell (blk_drew HG4.out) 0).trans rfl, (blk_cell (blk_drew BK4.out) 0).trans rfl, (blk_cell (blk_drew BK4.out) 1).trans rfl, (blk_cell (blk_drew BK4.out) 2).trans rfl, (blk_cell (blk_drew BK4.out) 3).trans rfl⟩ (fun hHeld => ?_)
    refine pure_ (i := 0) (N := some 14) (v := ?_) (a' := ?_) #[true, false, false, false, false, false, false] rfl rfl (by kernel_rfl) (fun _ _ _ h => h) (Or.inl ⟨by rfl, ?_⟩) ?_ ?_
    rotate_left
    ·intro w'
     go_simp
     with_reducible rfl
    rotate_left
    ·simp only [Act.put, List.setIfInBounds_toArray, List.set_cons_zero, List.set_cons_succ, i64_w, i32_w]
     rfl
    refine pure_ (i := 1) (N := some 15) (v := ?_) (a' := ?_) #[true, true, false, false, false, false, false] rfl rfl (by kernel_rfl) (fun _ _ _ h => h) (Or.inl ⟨by rfl, ?_⟩) ?_ ?_
    rotate_left
    ·intro w'
     go_simp
     with_reducible rfl
    rotate_left
    ·simp only [Act.put, List.setIfInBounds_toArray, List.set_cons_zero, List.set_cons_succ, i64_w, i32_w]
     rfl
    refine pure_ (i := 2) (N := some 16) (v := ?_) (a' := ?_) #[true, true, true, false, false, false, false] rfl rfl (by kernel_rfl) (fun _ _ _ h => h) (Or.inl ⟨by rfl, ?_⟩) ?_ ?_
    rotate_left
    ·intro w'
     go_simp
     with_reducible rfl
    rotate_left
    ·simp only [Act.put, List.setIfInBounds_toArray, List.set_cons_zero, List.set_cons_succ, i64_w, i32_w]
     rfl
    refine take_ (i := 3) (N := some 17) (v := ?_) (a' := ?_) #[true, true, true, true, false, false, false] rfl rfl (by kernel_rfl) (fun _ _ _ h => h) (Or.inl ⟨by rfl, ?_⟩) hHeld ?_ ?_
    rotate_left
    ·rintro w' ⟨s0, s1, s2, s3, s4⟩
     go_simp
     with_reducible rfl
    rotate_left
    ·simp only [Act.put, List.setIfInBounds_toArray, List.set_cons_zero, List.set_cons_succ, i64_w, i32_w]
     rfl
    refine take_ (i := 4) (N := some 18) (v := ?_) (a' := ?_) #[true, true, true, true, true, false, false] rfl rfl (by kernel_rfl) (fun _ _ _ h => h) (Or.inl ⟨by rfl, ?_⟩) hHeld ?_ ?_
    rotate_left
    ·rintro w' ⟨s0, s1, s2, s3, s4⟩
     go_simp
     with_reducible rfl
    rotate_left
    ·simp only [Act.put, List.setIfInBounds_toArray, List.set_cons_zero, List.set_cons_succ, i64_w, i32_w]
     rfl
    refine one_ (i := 5) (N := some 19) #[true, true, true, true, true, true, false] rfl rfl (by kernel_rfl) (by decide) (fun K hK => ?_)
    refine goes_ Try.func82 (by kernel_rfl) rfl #[.slice A l.length c, .agg #[.int .i64 x.f0, .int .i64 x.f1, .int .i64 x.f2, .int .i64 x.f3]] (by rfl) rfl rfl (by simp only [List.map_toArray, List.map_cons, List.map_nil]; rfl) ?_
    with_reducible refine (spec_l03At.calls ka A c l x.f0 x.f1 x.f2 x.f3 (-1) _ (Kd.C_below HC.out (below_drew1 HB4.out)) HLC.out HK2.out).mono ?_
    rintro e w5 ⟨rfl, hb5⟩
    refine ⟨_, rfl, ?_⟩
    have HG5 := Aside0.mk (blk_below (blk_drew HG4.out) hb5)
    have BK5 := Aside0.mk (blk_below (blk_drew BK4.out) hb5)
    have HB5 := Aside0.mk (below_step (below_drew1 HB4.out) hb5)
    clear hb5
    refine hK.out _ _ ⟨(blk_cell (HG5.out) 0).trans rfl, (blk_cell (BK5.out) 0).trans rfl, (blk_cell (BK5.out) 1).trans rfl, (blk_cell (BK5.out) 2).trans rfl, (blk_cell (BK5.out) 3).trans rfl⟩ (fun hHeld => ?_)
    clear hK K
    refine norm_ (a' := ?_) ?_ ?_
    rotate_left
    ·show Act.put _ (some 19) _ = _
     simp only [Act.put, List.setIfInBounds_toArray, List.set_cons_zero, List.set_cons_succ, i64_w, i32_w]
     rfl
    refine pure_ (i := 6) (N := some 5) (v := ?_) (a' := ?_) #[true, true, true, true, true, true, true] rfl rfl (by kernel_rfl) (fun _ _ _ h => h) (Or.inl ⟨by rfl, ?_⟩) ?_ ?_
    rotate_left
    ·intro w'
     go_simp
     with_reducible rfl
    rotate_left
    ·simp only [Act.put, List.setIfInBounds_toArray, List.set_cons_zero, List.set_cons_succ, i64_w, i32_w]
     rfl
    refine done_ (by kernel_rfl) ?_
    have hn0 : w5.cell? ⟨gb, 0, none⟩ = some (.int .i64 x.f0) := (blk_cell BK5.out 0).trans rfl
    have hn1 : w5.cell? ⟨gb, 1, none⟩ = some (.int .i64 x.f1) := (blk_cell BK5.out 1).trans rfl
    have hn2 : w5.cell? ⟨gb, 2, none⟩ = some (.int .i64 x.f2) := (blk_cell BK5.out 2).trans rfl
    have hn3 : w5.cell? ⟨gb, 3, none⟩ = some (.int .i64 x.f3) := (blk_cell BK5.out 3).trans rfl
    have hf0 := blk_frozen BK5.out 0
    have hf1 := blk_frozen BK5.out 1
    have hf2 := blk_frozen BK5.out 2
    have hf3 := blk_frozen BK5.out 3
    have hg0 : w5.cell? ⟨g, 0, none⟩ = some (.slice A l.length c) := (blk_cell HG5.out 0).trans rfl
    have hgf := blk_frozen HG5.out 0
    go_wp2
    have HRw := Aside0.mk (Kd.R_below (Kd.R_elderB HR.out gb (by rw [GB3.out]; exact Nat.le_refl _)) HB5.out)
    have HS5 := Aside0.mk (below_size HB5.out)
    have HGB := Aside0.mk (show gb < w5.heap.size from blk_lt BK5.out)
    refine start_ (n := 11) (S := fun w' => w'.cell? ⟨g, 0, none⟩ = some (.slice A l.length c) ∧ w'.cell? ⟨gb, 0, none⟩ = some (.int .i64 x.f0) ∧ w'.cell? ⟨gb, 1, none⟩ = some (.int .i64 x.f1) ∧ w'.cell? ⟨gb, 2, none⟩ = some (.int .i64 x.f2) ∧ w'.cell? ⟨gb, 3, none⟩ = some (.int .i64 x.f3)) (ds := [10]) #[false, false, false, false, false, false, false, false, false, false, false] (by kernel_rfl) rfl rfl ⟨(blk_cell (blk_drew HG5.out) 0).trans rfl, (blk_cell (blk_drew BK5.out) 0).trans rfl, (blk_cell (blk_drew BK5.out) 1).trans rfl, (blk_cell (blk_drew BK5.out) 2).trans rfl, (blk_cell (blk_drew BK5.out) 3).trans rfl⟩ (fun hHeld => ?_)
    refine pure_ (i := 0) (N := some 31) (v := ?_) (a' := ?_) #[true, false, false, false, false, false, false, false, false, false, false] rfl rfl (by kernel_rfl) (fun _ _ _ h => h) (Or.inl ⟨by rfl, ?_⟩) ?_ ?_
    rotate_left
    ·intro w'
     go_simp
     with_reducible rfl
    rotate_left
    ·simp only [Act.put, List.setIfInBounds_toArray, List.set_cons_zero, List.set_cons_succ, i64_w, i32_w]
     rfl
    refine pure_ (i := 1) (N := some 32) (v := ?_) (a' := ?_) #[true, true, false, false, false, false, false, false, false, false, false] rfl rfl (by kernel_rfl) (fun _ _ _ h => h) (Or.inl ⟨by rfl, ?_⟩) ?_ ?_
    rotate_left
    ·intro w'
     go_simp
     with_reducible rfl
    rotate_left
    ·simp only [Act.put, List.setIfInBounds_toArray, List.set_cons_zero, List.set_cons_succ, i64_w, i32_w]
     rfl
    refine pure_ (i := 2) (N := some 33) (v := ?_) (a' := ?_) #[true, true, true, false, false, false, false, false, false, false, false] rfl rfl (by kernel_rfl) (fun _ _ _ h => h) (Or.inl ⟨by rfl, ?_⟩) ?_ ?_
    rotate_left
    ·intro w'
     go_simp
     with_reducible rfl
    rotate_left
    ·simp only [Act.put, List.setIfInBounds_toArray, List.set_cons_zero, List.set_cons_succ, i64_w, i32_w]
     rfl
    refine pure_ (i := 3) (N := some 34) (v := ?_) (a' := ?_) #[true, true, true, true, false, false, false, false, false, false, false] rfl rfl (by kernel_rfl) (fun _ _ _ h => h) (Or.inl ⟨by rfl, ?_⟩) ?_ ?_
    rotate_left
    ·intro w'
     go_simp
     with_reducible rfl
    rotate_left
    ·simp only [Act.put, List.setIfInBounds_toArray, List.set_cons_zero, List.set_cons_succ, i64_w, i32_w]
     rfl
    refine take_ (i := 4) (N := some 35) (v := ?_) (a' := ?_) #[true, true, true, true, true, false, false, false, false, false, false] rfl rfl (by kernel_rfl) (fun _ _ _ h => h) (Or.inl ⟨by rfl, ?_⟩) hHeld ?_ ?_
    rotate_left
    ·rintro w' ⟨s0, s1, s2, s3, s4⟩
     go_simp
     with_reducible rfl
    rotate_left
    ·simp only [Act.put, List.setIfInBounds_toArray, List.set_cons_zero, List.set_cons_succ, i64_w, i32_w]
     rfl
    refine take_ (i := 5) (N := some 36) (v := ?_) (a' := ?_) #[true, true, true, true, true, true, false, false, false, false, false] rfl rfl (by kernel_rfl) (fun _ _ _ h => h) (Or.inl ⟨by rfl, ?_⟩) hHeld ?_ ?_
    rotate_left
    ·rintro w' ⟨s0, s1, s2, s3, s4⟩
     go_simp
     with_reducible rfl
    rotate_left
    ·simp only [Act.put, List.setIfInBounds_toArray, List.set_cons_zero, List.set_cons_succ, i64_w, i32_w]
     rfl
    refine one_ (i := 6) (N := some 37) #[true, true, true, true, true, true, true, false, false, false, false] rfl rfl (by kernel_rfl) (by decide) (fun K hK => ?_)
    refine value_ (w1 := ?_) (v := ?_) (by rfl) rfl ?_ ?_
    rotate_left 2
    ·go_simp
     constructor
     ·rfl
     ·rfl
    refine hK.out _ _ ⟨(blk_cell (blk_alloc (blk_drew HG5.out) _) 0).trans rfl, (blk_cell (blk_alloc (blk_drew BK5.out) _) 0).trans rfl, (blk_cell (blk_alloc (blk_drew BK5.out) _) 1).trans rfl, (blk_cell (blk_alloc (blk_drew BK5.out) _) 2).trans rfl, (blk_cell (blk_alloc (blk_drew BK5.out) _) 3).trans rfl⟩ (fun hHeld => ?_)
    clear hK K
    refine norm_ (a' := ?_) ?_ ?_
    rotate_left
    ·show Act.put _ (some 37) _ = _
     simp only [Act.put, List.setIfInBounds_toArray, List.set_cons_zero, List.set_cons_succ, i64_w, i32_w]
     rfl
    refine one_ (i := 7) (N := some 38) #[true, true, true, true, true, true, true, true, false, false, false] rfl rfl (by kernel_rfl) (by decide) (fun K hK => ?_)
    refine Kd.R_append_step k34 (w0 := w) (W := w5.drew) base (by rfl) (.tmp 35) (.tmp 37) 24 34 (.agg #[.int .i64 0, .int .i64 0, .int .i64 0, .int .i64 0]) 32 rfl Try.underlying24 info34 rfl (by decide) (by decide) (.slice A l.length c) l x [.int .i64 x.f0, .int .i64 x.f1, .int .i64 x.f2, .int .i64 x.f3] (fun k => ok k ∧ k ≠ gb) (fun _ => False) rfl rfl (k34_mkM _ _ _ x) (fun _ h => h.elim) (fun k hk => ⟨HF.out k (Nat.le_trans HS5.out hk), fun e => Nat.lt_irrefl _ (Nat.lt_of_lt_of_le HGB.out (e ▸ hk))⟩) (Kd.R_drew HRw.out) ((below_drew1 HB5.out).mono HBS.out) (Nat.le_trans HBS.out HS5.out) (Nat.le_trans (Nat.mul_le_mul_right 32 (Nat.lt_of_not_le H3.out)) (by decide)) ?_
    intro v1 w7 ho hb hg hat
    have hne : ∀ k, (Value.slice A l.length c).ownBlock = some k → ok k ∧ k ≠ gb := HRw.out.1
    have HG7 := Aside0.mk (blk_grown (blk_drew HG5.out) hg (fun e => HNO.out (hne _ e.symm).1))
    have BK7 := Aside0.mk (blk_grown (blk_drew BK5.out) hg (fun e => (hne _ e.symm).2 rfl))
    have HK7 := Aside0.mk (Kept.of_grown (S := Mine g ok) hg (Kept.drew (Kept.of_below HB5.out _)) (fun k hk => .inl (.inr (hne k hk).1)))
    have HB7 := Aside0.mk hb
    obtain ⟨A1, c1, rfl, hlc1, _⟩ := Kd.R_reads ho
    have HO7 := Aside0.mk ho
    have hg07 : w7.cell? ⟨g, 0, none⟩ = some (.slice A l.length c) := (blk_cell HG7.out 0).trans rfl
    have hgf7 := blk_frozen HG7.out 0
    clear ho hb hg hat hne hlc1
    refine hK.out _ _ ⟨(blk_cell HG7.out 0).trans rfl, (blk_cell BK7.out 0).trans rfl, (blk_cell BK7.out 1).trans rfl, (blk_cell BK7.out 2).trans rfl, (blk_cell BK7.out 3).trans rfl⟩ (fun hHeld => ?_)
    clear hK K
    refine norm_ (a' := ?_) ?_ ?_
    rotate_left
    ·show Act.put _ (some 38) _ = _
     simp only [Act.put, List.setIfInBounds_toArray, List.set_cons_zero, List.set_cons_succ, i64_w, i32_w]
     rfl
    refine pure_ (i := 8) (N := some 39) (v := ?_) (a' := ?_) #[true, true, true, true, true, true, true, true, true, false, false] rfl rfl (by kernel_rfl) (fun _ _ _ h => h) (Or.inl ⟨by rfl, ?_⟩) ?_ ?_
    rotate_left
    ·intro w'
     go_simp
     with_reducible rfl
    rotate_left
    ·simp only [Act.put, List.setIfInBounds_toArray, List.set_cons_zero, List.set_cons_succ, i64_w, i32_w]
     rfl
    refine pure_ (i := 9) (N := some 40) (v := ?_) (a' := ?_) #[true, true, true, true, true, true, true, true, true, true, false] rfl rfl (by kernel_rfl) (fun _ _ _ h => h) (Or.inl ⟨by rfl, ?_⟩) ?_ ?_
    rotate_left
    ·intro w'
     go_simp
     with_reducible rfl
    rotate_left
    ·simp only [Act.put, List.setIfInBounds_toArray, List.set_cons_zero, List.set_cons_succ, i64_w, i32_w]
     rfl
    refine last_ (i := 10) (N := none) #[true, true, true, true, true, true, true, true, true, true, true] rfl rfl (by kernel_rfl) (by decide) (fun K hK => ?_)
    refine skip_ (w1 := ?_) (by rfl) rfl ?_ ?_
    rotate_left
    ·go_simp
     rfl
    refine hK.out _ _ ?_
    clear hK K
    refine done_ (by kernel_rfl) ?_
    obtain ⟨w8, hw8⟩ : ∃ w8, w7.setCell ⟨g, 0, none⟩ (.slice A1 (l.length + 1) c1) = w8 := ⟨_, rfl⟩
    rw [hw8]
    have HG8 := Aside0.mk (show w8.heap[g]? = some (.cells #[.slice A1 (l.length + 1) c1] 26 (0, 0)) by rw [← hw8]; exact blk_put HG7.out 0 _ rfl)
    have HB8 := Aside0.mk (show Below base w w8 by rw [← hw8]; exact HB7.out.setCell HBG.out _)
    have HK8 := Aside0.mk (show Kept w w8 (Mine g ok) by rw [← hw8]; exact Kept.setCell HK7.out (.inl (.inl rfl)) _)
    have HO8 := Aside0.mk (show Kd.R k34 34 w8 base (fun k => ok k ∧ k ≠ gb) (.slice A1 (l ++ [x]).length c1) (l ++ [x]) by rw [← hw8]; exact Kd.R_far HO7.out (fun k hk e => HNO.out (by have h1 := hk.1; rwa [show k = g from e] at h1)) _)
    clear hw8
    have hg08 : w8.cell? ⟨g, 0, none⟩ = some (.slice A1 (l.length + 1) c1) := (blk_cell HG8.out 0).trans rfl
    have hgf8 := blk_frozen HG8.out 0
    have hlt8 : l.length ≤ 1048576 := HL.out
    go_wp2
    go_ret
    rw [HE.out]
    refine ⟨by first | rfl | (congr 2; omega) | (simp; omega), ⟨_, HG8.out, HBG.out, HNO.out, ?_⟩, HB8.out, HK8.out⟩
    have hO := Kd.R_mono HO8.out (fun _ hk => hk.1)
    rw [List.length_append] at hO
    exact hO
  ·have he : putN l x = (l, atV l x) := by unfold putN; rw [if_pos hb, if_pos ha]
   have HE := Aside0.mk he
   clear he hb
   generalize atV l x = q at ha ha1 HE HK2
   have hq0 : decide (0 ≤ q) = true := decide_eq_true ha
   clear ha ha1
   go_enter Try.func113, Try.ntmps113
   go_wp2_with (first | ((with_reducible refine gate_dst (N := 3) rfl ?_); refine box_event ?hg (N := 3) ?hd (cs := #[.int .i64 x.f0, .int .i64 x.f1, .int .i64 x.f2, .int .i64 x.f3]) (t := 34) ?hr ?_; (case hd => rfl); (case hg => rfl); (case hr => first | (go_simp; done) | (go_simp; rfl)); intro gb hg1 w3 hbox hb; have BK3 := Aside0.mk hbox; have HB3 := Aside0.mk hb; have GB3 := Aside0.mk hg1; clear hg1 hbox hb))
   have HG3 := Aside0.mk (blk_below HG0.out HB3.out)
   refine start_ (n := 8) (S := fun w' => w'.cell? ⟨g, 0, none⟩ = some (.slice A l.length c) ∧ w'.cell? ⟨gb, 0, none⟩ = some (.int .i64 x.f0) ∧ w'.cell? ⟨gb, 1, none⟩ = some (.int .i64 x.f1) ∧ w'.cell? ⟨gb, 2, none⟩ = some (.int .i64 x.f2) ∧ w'.cell? ⟨gb, 3, none⟩ = some (.int .i64 x.f3)) (ds := []) #[false, false, false, false, false, false, false, false] (by kernel_rfl) rfl rfl ⟨(blk_cell (blk_drew HG3.out) 0).trans rfl, (blk_cell (blk_drew BK3.out) 0).trans rfl, (blk_cell (blk_drew BK3.out) 1).trans rfl, (blk_cell (blk_drew BK3.out) 2).trans rfl, (blk_cell (blk_drew BK3.out) 3).trans rfl⟩ (fun hHeld => ?_)
   refine pure_ (i := 1) (N := some 7) (v := ?_) (a' := ?_) #[false, true, false, false, false, false, false, false] rfl rfl (by kernel_rfl) (fun _ _ _ h => h) (Or.inl ⟨by rfl, ?_⟩) ?_ ?_
   rotate_left
   ·intro w'
    go_simp
    with_reducible rfl
   rotate_left
   ·simp only [Act.put, List.setIfInBounds_toArray, List.set_cons_zero, List.set_cons_succ, i64_w, i32_w]
    rfl
   refine pure_ (i := 2) (N := some 8) (v := ?_) (a' := ?_) #[false, true, true, false, false, false, false, false] rfl rfl (by kernel_rfl) (fun _ _ _ h => h) (Or.inl ⟨by rfl, ?_⟩) ?_ ?_
   rotate_left
   ·intro w'
    go_simp
    with_reducible rfl
   rotate_left
   ·simp only [Act.put, List.setIfInBounds_toArray, List.set_cons_zero, List.set_cons_succ, i64_w, i32_w]
    rfl
   refine pure_ (i := 3) (N := some 9) (v := ?_) (a' := ?_) #[false, true, true, true, false, false, false, false] rfl rfl (by kernel_rfl) (fun _ _ _ h => h) (Or.inl ⟨by rfl, ?_⟩) ?_ ?_
   rotate_left
   ·intro w'
    go_simp
    with_reducible rfl
   rotate_left
   ·simp only [Act.put, List.setIfInBounds_toArray, List.set_cons_zero, List.set_cons_succ, i64_w, i32_w]
    rfl
   refine take_ (i := 0) (N := some 6) (v := ?_) (a' := ?_) #[true, true, true, true, false, false, false, false] rfl rfl (by kernel_rfl) (fun _ _ _ h => h) (Or.inl ⟨by rfl, ?_⟩) hHeld ?_ ?_
   rotate_left
   ·rintro w' ⟨s0, s1, s2, s3, s4⟩
    go_simp
    with_reducible rfl
   rotate_left
   ·simp only [Act.put, List.setIfInBounds_toArray, List.set_cons_zero, List.set_cons_succ, i64_w, i32_w]
    rfl
   refine take_ (i := 4) (N := some 10) (v := ?_) (a' := ?_) #[true, true, true, true, true, false, false, false] rfl rfl (by kernel_rfl) (fun _ _ _ h => h) (Or.inl ⟨by rfl, ?_⟩) hHeld ?_ ?_
   rotate_left
   ·rintro w' ⟨s0, s1, s2, s3, s4⟩
    go_simp
    with_reducible rfl
   rotate_left
   ·simp only [Act.put, List.setIfInBounds_toArray, List.set_cons_zero, List.set_cons_succ, i64_w, i32_w]
    rfl
   refine pure_ (i := 5) (N := some 11) (v := ?_) (a' := ?_) #[true, true, true, true, true, true, false, false] rfl rfl (by kernel_rfl) (fun _ _ _ h => h) (Or.inl ⟨by rfl, ?_⟩) ?_ ?_
   rotate_left
   ·intro w'
    go_simp
    with_reducible rfl
   rotate_left
   ·simp only [Act.put, List.setIfInBounds_toArray, List.set_cons_zero, List.set_cons_succ, i64_w, i32_w]
    rfl
   refine one_ (i := 6) (N := some 12) #[true, true, true, true, true, true, true, false] rfl rfl (by kernel_rfl) (by decide) (fun K hK => ?_)
   refine goes_ Try.func81 (by kernel_rfl) rfl #[.agg #[.int .i64 x.f0, .int .i64 x.f1, .int .i64 x.f2, .int .i64 x.f3], .int .i64 (l.length : Int)] (by rfl) rfl rfl (by simp only [List.map_toArray, List.map_cons, List.map_nil]; rfl) ?_
   with_reducible refine (spec_l03Node.calls kn x.f0 x.f1 x.f2 x.f3 (l.length : Int) true _ HK.out).mono ?_
   rintro e w4 ⟨rfl, hb4⟩
   refine ⟨_, rfl, ?_⟩
   have HG4 := Aside0.mk (blk_below (blk_drew HG3.out) hb4)
   have BK4 := Aside0.mk (blk_below (blk_drew BK3.out) hb4)
   have HB4 := Aside0.mk (below_step (below_drew1 HB3.out) hb4)
   clear hb4
   refine hK.out _ _ ⟨(blk_cell (HG4.out) 0).trans rfl, (blk_cell (BK4.out) 0).trans rfl, (blk_cell (BK4.out) 1).trans rfl, (blk_cell (BK4.out) 2).trans rfl, (blk_cell (BK4.out) 3).trans rfl⟩ (fun hHeld => ?_)
   clear hK K
   refine norm_ (a' := ?_) ?_ ?_
   rotate_left
   ·show Act.put _ (some 12) _ = _
    simp only [Act.put, List.setIfInBounds_toArray, List.set_cons_zero, List.set_cons_succ, i64_w, i32_w]
    rfl
   refine pure_ (i := 7) (N := some 13) (v := ?_) (a' := ?_) #[true, true, true, true, true, true, true, true] rfl rfl (by kernel_rfl) (fun _ _ _ h => h) (Or.inl ⟨by rfl, ?_⟩) ?_ ?_
   rotate_left
   ·intro w'
    go_simp
    with_reducible rfl
   rotate_left
   ·simp only [Act.put, List.setIfInBounds_toArray, List.set_cons_zero, List.set_cons_succ, i64_w, i32_w]
    rfl
   refine done_ (by kernel_rfl) ?_
   have hn0 : w4.cell? ⟨gb, 0, none⟩ = some (.int .i64 x.f0) := (blk_cell BK4.out 0).trans rfl
   have hn1 : w4.cell? ⟨gb, 1, none⟩ = some (.int .i64 x.f1) := (blk_cell BK4.out 1).trans rfl
   have hn2 : w4.cell? ⟨gb, 2, none⟩ = some (.int .i64 x.f2) := (blk_cell BK4.out 2).trans rfl
   have hn3 : w4.cell? ⟨gb, 3, none⟩ = some (.int .i64 x.f3) := (blk_cell BK4.out 3).trans rfl
   have hf0 := blk_frozen BK4.out 0
   have hf1 := blk_frozen BK4.out 1
   have hf2 := blk_frozen BK4.out 2
   have hf3 := blk_frozen BK4.out 3
   have hg0 : w4.cell? ⟨g, 0, none⟩ = some (.slice A l.length c) := (blk_cell HG4.out 0).trans rfl
   have hgf := blk_frozen HG4.out 0
   go_wp2
   refine start_ (n := 7) (S := fun w' => w'.cell? ⟨g, 0, none⟩ = some (.slice A l.length c) ∧ w'.cell? ⟨gb, 0, none⟩ = some (.int .i64 x.f0) ∧ w'.cell? ⟨gb, 1, none⟩ = some (.int .i64 x.f1) ∧ w'.cell? ⟨gb, 2, none⟩ = some (.int .i64 x.f2) ∧ w'.cell? ⟨gb, 3, none⟩ = some (.int .i64 x.f3)) (ds := []) #[false, false, false, false, false, false, false] (by kernel_rfl) rfl rfl ⟨(blk_cell (blk_drew HG4.out) 0).trans rfl, (blk_cell (blk_drew BK4.out) 0).trans rfl, (blk_cell (blk_drew BK4.out) 1).trans rfl, (blk_cell (blk_drew BK4.out) 2).trans rfl, (blk_cell (blk_drew BK4.out) 3).trans rfl⟩ (fun hHeld => ?_)
   refine pure_ (i := 0) (N := some 14) (v := ?_) (a' := ?_) #[true, false, false, false, false, false, false] rfl rfl (by kernel_rfl) (fun _ _ _ h => h) (Or.inl ⟨by rfl, ?_⟩) ?_ ?_
   rotate_left
   ·intro w'
    go_simp
    with_reducible rfl
   rotate_left
   ·simp only [Act.put, List.setIfInBounds_toArray, List.set_cons_zero, List.set_cons_succ, i64_w, i32_w]
    rfl
   refine pure_ (i := 1) (N := some 15) (v := ?_) (a' := ?_) #[true, true, false, false, false, false, false] rfl rfl (by kernel_rfl) (fun _ _ _ h => h) (Or.inl ⟨by rfl, ?_⟩) ?_ ?_
   rotate_left
   ·intro w'
    go_simp
    with_reducible rfl
   rotate_left
   ·simp only [Act.put, List.setIfInBounds_toArray, List.set_cons_zero, List.set_cons_succ, i64_w, i32_w]
    rfl
   refine pure_ (i := 2) (N := some 16) (v := ?_) (a' := ?_) #[true, true, true, false, false, false, false] rfl rfl (by kernel_rfl) (fun _ _ _ h => h) (Or.inl ⟨by rfl, ?_⟩) ?_ ?_
   rotate_left
   ·intro w'
    go_simp
    with_reducible rfl
   rotate_left
   ·simp only [Act.put, List.setIfInBounds_toArray, List.set_cons_zero, List.set_cons_succ, i64_w, i32_w]
    rfl
   refine take_ (i := 3) (N := some 17) (v := ?_) (a' := ?_) #[true, true, true, true, false, false, false] rfl rfl (by kernel_rfl) (fun _ _ _ h => h) (Or.inl ⟨by rfl, ?_⟩) hHeld ?_ ?_
   rotate_left
   ·rintro w' ⟨s0, s1, s2, s3, s4⟩
    go_simp
    with_reducible rfl
   rotate_left
   ·simp only [Act.put, List.setIfInBounds_toArray, List.set_cons_zero, List.set_cons_succ, i64_w, i32_w]
    rfl
   refine take_ (i := 4) (N := some 18) (v := ?_) (a' := ?_) #[true, true, true, true, true, false, false] rfl rfl (by kernel_rfl) (fun _ _ _ h => h) (Or.inl ⟨by rfl, ?_⟩) hHeld ?_ ?_
   rotate_left
   ·rintro w' ⟨s0, s1, s2, s3, s4⟩
    go_simp
    with_reducible rfl
   rotate_left
   ·simp only [Act.put, List.setIfInBounds_toArray, List.set_cons_zero, List.set_cons_succ, i64_w, i32_w]
    rfl
   refine one_ (i := 5) (N := some 19) #[true, true, true, true, true, true, false] rfl rfl (by kernel_rfl) (by decide) (fun K hK => ?_)
   refine goes_ Try.func82 (by kernel_rfl) rfl #[.slice A l.length c, .agg #[.int .i64 x.f0, .int .i64 x.f1, .int .i64 x.f2, .int .i64 x.f3]] (by rfl) rfl rfl (by simp only [List.map_toArray, List.map_cons, List.map_nil]; rfl) ?_
   with_reducible refine (spec_l03At.calls ka A c l x.f0 x.f1 x.f2 x.f3 q _ (Kd.C_below HC.out (below_drew1 HB4.out)) HLC.out HK2.out).mono ?_
   rintro e w5 ⟨rfl, hb5⟩
   refine ⟨_, rfl, ?_⟩
   have HG5 := Aside0.mk (blk_below (blk_drew HG4.out) hb5)
   have BK5 := Aside0.mk (blk_below (blk_drew BK4.out) hb5)
   have HB5 := Aside0.mk (below_step (below_drew1 HB4.out) hb5)
   clear hb5
   refine hK.out _ _ ⟨(blk_cell (HG5.out) 0).trans rfl, (blk_cell (BK5.out) 0).trans rfl, (blk_cell (BK5.out) 1).trans rfl, (blk_cell (BK5.out) 2).trans rfl, (blk_cell (BK5.out) 3).trans rfl⟩ (fun hHeld => ?_)
   clear hK K
   refine norm_ (a' := ?_) ?_ ?_
   rotate_left
   ·show Act.put _ (some 19) _ = _
    simp only [Act.put, List.setIfInBounds_toArray, List.set_cons_zero, List.set_cons_succ, i64_w, i32_w]
    rfl
   refine pure_ (i := 6) (N := some 5) (v := ?_) (a' := ?_) #[true, true, true, true, true, true, true] rfl rfl (by kernel_rfl) (fun _ _ _ h => h) (Or.inl ⟨by rfl, ?_⟩) ?_ ?_
   rotate_left
   ·intro w'
    go_simp
    with_reducible rfl
   rotate_left
   ·simp only [Act.put, List.setIfInBounds_toArray, List.set_cons_zero, List.set_cons_succ, i64_w, i32_w]
    rfl
   refine done_ (by kernel_rfl) ?_
   have hn0 : w5.cell? ⟨gb, 0, none⟩ = some (.int .i64 x.f0) := (blk_cell BK5.out 0).trans rfl
   have hn1 : w5.cell? ⟨gb, 1, none⟩ = some (.int .i64 x.f1) := (blk_cell BK5.out 1).trans rfl
   have hn2 : w5.cell? ⟨gb, 2, none⟩ = some (.int .i64 x.f2) := (blk_cell BK5.out 2).trans rfl
   have hn3 : w5.cell? ⟨gb, 3, none⟩ = some (.int .i64 x.f3) := (blk_cell BK5.out 3).trans rfl
   have hf0 := blk_frozen BK5.out 0
   have hf1 := blk_frozen BK5.out 1
   have hf2 := blk_frozen BK5.out 2
   have hf3 := blk_frozen BK5.out 3
   have hg0 : w5.cell? ⟨g, 0, none⟩ = some (.slice A l.length c) := (blk_cell HG5.out 0).trans rfl
   have hgf := blk_frozen HG5.out 0
   go_wp2
   go_ret
   rw [HE.out]
   exact ⟨rfl, ⟨_, HG5.out, HBG.out, HNO.out, Kd.R_below HR.out HB5.out⟩, HB5.out.mono HBS.out, Kept.of_below HB5.out _⟩
 ·have hb0 : nodeB x.f0 x.f1 x.f2 x.f3 (l.length : Int) = false := by simpa using hb
  rw [hb0] at HK
  have he : putN l x = (l, -1) := by unfold putN; rw [if_neg hb]
  have HE := Aside0.mk he
  clear he hb hb0 hbl
  go_enter Try.func113, Try.ntmps113
  go_wp2_with (first | ((with_reducible refine gate_dst (N := 3) rfl ?_); refine box_event ?hg (N := 3) ?hd (cs := #[.int .i64 x.f0, .int .i64 x.f1, .int .i64 x.f2, .int .i64 x.f3]) (t := 34) ?hr ?_; (case hd => rfl); (case hg => rfl); (case hr => first | (go_simp; done) | (go_simp; rfl)); intro gb hg1 w3 hbox hb; have BK3 := Aside0.mk hbox; have HB3 := Aside0.mk hb; have GB3 := Aside0.mk hg1; clear hg1 hbox hb))
  have HG3 := Aside0.mk (blk_below HG0.out HB3.out)
  refine start_ (n := 8) (S := fun w' => w'.cell? ⟨g, 0, none⟩ = some (.slice A l.length c) ∧ w'.cell? ⟨gb, 0, none⟩ = some (.int .i64 x.f0) ∧ w'.cell? ⟨gb, 1, none⟩ = some (.int .i64 x.f1) ∧ w'.cell? ⟨gb, 2, none⟩ = some (.int .i64 x.f2) ∧ w'.cell? ⟨gb, 3, none⟩ = some (.int .i64 x.f3)) (ds := []) #[false, false, false, false, false, false, false, false] (by kernel_rfl) rfl rfl ⟨(blk_cell (blk_drew HG3.out) 0).trans rfl, (blk_cell (blk_drew BK3.out) 0).trans rfl, (blk_cell (blk_drew BK3.out) 1).trans rfl, (blk_cell (blk_drew BK3.out) 2).trans rfl, (blk_cell (blk_drew BK3.out) 3).trans rfl⟩ (fun hHeld => ?_)
  refine pure_ (i := 1) (N := some 7) (v := ?_) (a' := ?_) #[false, true, false, false, false, false, false, false] rfl rfl (by kernel_rfl) (fun _ _ _ h => h) (Or.inl ⟨by rfl, ?_⟩) ?_ ?_
  rotate_left
  ·intro w'
   go_simp
   with_reducible rfl
  rotate_left
  ·simp only [Act.put, List.setIfInBounds_toArray, List.set_cons_zero, List.set_cons_succ, i64_w, i32_w]
   rfl
  refine pure_ (i := 2) (N := some 8) (v := ?_) (a' := ?_) #[false, true, true, false, false, false, false, false] rfl rfl (by kernel_rfl) (fun _ _ _ h => h) (Or.inl ⟨by rfl, ?_⟩) ?_ ?_
  rotate_left
  ·intro w'
   go_simp
   with_reducible rfl
  rotate_left
  ·simp only [Act.put, List.setIfInBounds_toArray, List.set_cons_zero, List.set_cons_succ, i64_w, i32_w]
   rfl
  refine pure_ (i := 3) (N := some 9) (v := ?_) (a' := ?_) #[false, true, true, true, false, false, false, false] rfl rfl (by kernel_rfl) (fun _ _ _ h => h) (Or.inl ⟨by rfl, ?_⟩) ?_ ?_
  rotate_left
  ·intro w'
   go_simp
   with_reducible rfl
  rotate_left
  ·simp only [Act.put, List.setIfInBounds_toArray, List.set_cons_zero, List.set_cons_succ, i64_w, i32_w]
   rfl
  refine take_ (i := 0) (N := some 6) (v := ?_) (a' := ?_) #[true, true, true, true, false, false, false, false] rfl rfl (by kernel_rfl) (fun _ _ _ h => h) (Or.inl ⟨by rfl, ?_⟩) hHeld ?_ ?_
  rotate_left
  ·rintro w' ⟨s0, s1, s2, s3, s4⟩
   go_simp
   with_reducible rfl
  rotate_left
  ·simp only [Act.put, List.setIfInBounds_toArray, List.set_cons_zero, List.set_cons_succ, i64_w, i32_w]
   rfl
  refine take_ (i := 4) (N := some 10) (v := ?_) (a' := ?_) #[true, true, true, true, true, false, false, false] rfl rfl (by kernel_rfl) (fun _ _ _ h => h) (Or.inl ⟨by rfl, ?_⟩) hHeld ?_ ?_
  rotate_left
  ·rintro w' ⟨s0, s1, s2, s3, s4⟩
   go_simp
   with_reducible rfl
  rotate_left
  ·simp only [Act.put, List.setIfInBounds_toArray, List.set_cons_zero, List.set_cons_succ, i64_w, i32_w]
   rfl
  refine pure_ (i := 5) (N := some 11) (v := ?_) (a' := ?_) #[true, true, true, true, true, true, false, false] rfl rfl (by kernel_rfl) (fun _ _ _ h => h) (Or.inl ⟨by rfl, ?_⟩) ?_ ?_
  rotate_left
  ·intro w'
   go_simp
   with_reducible rfl
  rotate_left
  ·simp only [Act.put, List.setIfInBounds_toArray, List.set_cons_zero, List.set_cons_succ, i64_w, i32_w]
   rfl
  refine one_ (i := 6) (N := some 12) #[true, true, true, true, true, true, true, false] rfl rfl (by kernel_rfl) (by decide) (fun K hK => ?_)
  refine goes_ Try.func81 (by kernel_rfl) rfl #[.agg #[.int .i64 x.f0, .int .i64 x.f1, .int .i64 x.f2, .int .i64 x.f3], .int .i64 (l.length : Int)] (by rfl) rfl rfl (by simp only [List.map_toArray, List.map_cons, List.map_nil]; rfl) ?_
  with_reducible refine (spec_l03Node.calls kn x.f0 x.f1 x.f2 x.f3 (l.length : Int) false _ HK.out).mono ?_
  rintro e w4 ⟨rfl, hb4⟩
  refine ⟨_, rfl, ?_⟩
  have HG4 := Aside0.mk (blk_below (blk_drew HG3.out) hb4)
  have BK4 := Aside0.mk (blk_below (blk_drew BK3.out) hb4)
  have HB4 := Aside0.mk (below_step (below_drew1 HB3.out) hb4)
  clear hb4
  refine hK.out _ _ ⟨(blk_cell (HG4.out) 0).trans rfl, (blk_cell (BK4.out) 0).trans rfl, (blk_cell (BK4.out) 1).trans rfl, (blk_cell (BK4.out) 2).trans rfl, (blk_cell (BK4.out) 3).trans rfl⟩ (fun hHeld => ?_)
  clear hK K
  refine norm_ (a' := ?_) ?_ ?_
  rotate_left
  ·show Act.put _ (some 12) _ = _
   simp only [Act.put, List.setIfInBounds_toArray, List.set_cons_zero, List.set_cons_succ, i64_w, i32_w]
   rfl
  refine pure_ (i := 7) (N := some 13) (v := ?_) (a' := ?_) #[true, true, true, true, true, true, true, true] rfl rfl (by kernel_rfl) (fun _ _ _ h => h) (Or.inl ⟨by rfl, ?_⟩) ?_ ?_
  rotate_left
  ·intro w'
   go_simp
   with_reducible rfl
  rotate_left
  ·simp only [Act.put, List.setIfInBounds_toArray, List.set_cons_zero, List.set_cons_succ, i64_w, i32_w]
   rfl
  refine done_ (by kernel_rfl) ?_
  have hn0 : w4.cell? ⟨gb, 0, none⟩ = some (.int .i64 x.f0) := (blk_cell BK4.out 0).trans rfl
  have hn1 : w4.cell? ⟨gb, 1, none⟩ = some (.int .i64 x.f1) := (blk_cell BK4.out 1).trans rfl
  have hn2 : w4.cell? ⟨gb, 2, none⟩ = some (.int .i64 x.f2) := (blk_cell BK4.out 2).trans rfl
  have hn3 : w4.cell? ⟨gb, 3, none⟩ = some (.int .i64 x.f3) := (blk_cell BK4.out 3).trans rfl
  have hf0 := blk_frozen BK4.out 0
  have hf1 := blk_frozen BK4.out 1
  have hf2 := blk_frozen BK4.out 2
  have hf3 := blk_frozen BK4.out 3
  have hg0 : w4.cell? ⟨g, 0, none⟩ = some (.slice A l.length c) := (blk_cell HG4.out 0).trans rfl
  have hgf := blk_frozen HG4.out 0
  go_wp2
  go_ret
  rw [HE.out]
  exact ⟨rfl, ⟨_, HG4.out, HBG.out, HNO.out, Kd.R_below HR.out HB4.out⟩, HB4.out.mono HBS.out, Kept.of_below HB4.out _⟩

/-! what l03Put wants and leaves, in one word -/
def ArS (w : World) (base g : Nat) (ok : Nat → Prop) (l : List S34) : Prop := ArAt w base g ok l ∧ (∀ k, w.heap.size ≤ k → ok k) ∧ l.length ≤ 1048576
theorem ArAt.size {w : World} {base g : Nat} {ok : Nat → Prop} {l : List S34} (h : ArAt w base g ok l) : base ≤ g ∧ g < w.heap.size := by
 obtain ⟨v, h1, h2, _, _⟩ := h
 exact ⟨h2, blk_lt h1⟩
theorem ArS.keep {w w1 : World} {base g : Nat} {ok : Nat → Prop} {l : List S34} (h : ArS w base g ok l) (hb : Below w.heap.size w w1) : ArS w1 base g ok l :=
  ⟨h.1.keep hb, fun k hk => h.2.1 k (Nat.le_trans hb.size hk), h.2.2⟩
def ArPost (w : World) (base g : Nat) (ok : Nat → Prop) (r : List S34 × Int) (e : Ending) (w' : World) : Prop := e = .returned (.int .i64 r.2) ∧ ArS w' base g ok r.1 ∧ Below base w w' ∧ Kept w w' (Mine g ok)
theorem putN_len {l : List S34} {x : S34} (h : l.length ≤ 1048576) : (putN l x).1.length ≤ 1048576 := by
 rcases putN_cases l x with ⟨h1, _⟩ | ⟨_, _, ⟨h1, _⟩ | ⟨_, h2, h1, _⟩⟩
 ·rw [h1]; exact h
 ·rw [h1]; exact h
 ·rw [h1, List.length_append, List.length_singleton]; omega
theorem spec_put (l : List S34) (x : S34) (w : World) (base g : Nat) (ok : Nat → Prop) (h : ArS w base g ok l) :
  Calls Try.prog 113 #[.pointer (some ⟨g, 0, none⟩), .agg #[.int .i64 x.f0, .int .i64 x.f1, .int .i64 x.f2, .int .i64 x.f3]] w (ArPost w base g ok (putN l x)) := by
 have hs := h.1.size
 refine (spec_l03Put_at l x w base g ok h.1 (by omega) h.2.1 h.2.2).mono ?_
 rintro e w' ⟨he, hA, hb, hk⟩
 exact ⟨he, ⟨hA, fun k hk' => h.2.1 k (Nat.le_trans hb.size hk'), putN_len h.2.2⟩, hb, hk⟩
theorem ArPost.trans {w w1 w2 : World} {base g : Nat} {ok : Nat → Prop} {r : List S34 × Int} {e : Ending} (hb : Below base w w1) (hk : Kept w w1 (Mine g ok)) (h : ArPost w1 base g ok r e w2) : ArPost w base g ok r e w2 :=
  ⟨h.1, h.2.1, hb.trans h.2.2.1, hk.then_ h.2.2.2 (fun _ h => .inl h)⟩
/-! an arena that is drawn -/
def arenaBody (c : List Int) (ci ch : Int) (ns : List S34) : Option (List S34 × Int × Int) :=
  (if ns.length < 2 then some (true, ci, ch) else spec_l01Once.f c ci ch 3).bind fun o =>
    if o.1 = true then (spec_l01PickInt.f c o.2.1 o.2.2 ([0, 1, 5, 1000, 5000, 10000, 10001] : List Int)).bind fun p => some ((putN ns ⟨1, p.1, 0, 0⟩).1, p.2.1, p.2.2)
    else (spec_l01Below.f c o.2.1 o.2.2 8).bind fun q => if 0 ≤ q.1 ∧ q.1 ≤ 7 then (spec_l01Below.f c q.2.1 q.2.2 (ns.length : Int)).bind fun x => (spec_l01Below.f c x.2.1 x.2.2 (ns.length : Int)).bind fun y =>
      some ((putN ns ⟨2 + q.1, 0, x.1, if 2 + q.1 = 3 ∨ 2 + q.1 = 6 then 0 else y.1⟩).1, y.2.1, y.2.2) else none
def arenaLoop : Nat → List Int → Int → Int → Int → List S34 → Option (List S34 × Int × Int)
  | 0, _, _, _, _, _ => none
  | k + 1, c, ci, ch, j, ns => (spec_l01Below.f c ci ch 10).bind fun b => if 0 ≤ b.1 ∧ b.1 ≤ 9 then (if j < 3 + b.1 then (arenaBody c b.2.1 b.2.2 ns).bind fun s => arenaLoop k c s.2.1 s.2.2 (j + 1) s.1 else some (ns, b.2.1, b.2.2)) else none
/-- the world in the loop -/
def AInv (w0 w wr : World) (gc gr ga B : Nat) (c : List Int) (ns : List S34) (ci ch : Int) : Prop :=
  IsS119 w0 wr gc c ci ch ∧ ArS wr w.heap.size ga (fun k => B ≤ k) ns ∧ wr.heap[gr]? = some (.cells #[.slice none 0 0] 26 (0, 0)) ∧ Below w0.heap.size w0 wr ∧ KeepBut w wr gc none
def AFix (w0 w : World) (gc gr ga B : Nat) : Prop := w0.heap.size ≤ w.heap.size ∧ gc < w.heap.size ∧ w.heap.size ≤ gr ∧ w.heap.size ≤ ga ∧ gr < B ∧ ga < B ∧ gr ≠ ga
theorem AInv.draw {w0 w W W1 : World} {gc gr ga B : Nat} {c : List Int} {ns : List S34} {ci ch ci1 ch1 : Int} (hf : AFix w0 w gc gr ga B) (h : AInv w0 w W gc gr ga B c ns ci ch) (hi : IsS119 w0 W1 gc c ci1 ch1) (hb : Below w0.heap.size w0 W1) (hk : KeepBut W W1 gc none) : AInv w0 w W1 gc gr ga B c ns ci1 ch1 := by
 obtain ⟨_, f2, f3, f4, f5, f6, f7⟩ := hf
 obtain ⟨h1, ⟨⟨v, a1, a2, a3, a4⟩, a5, a6⟩, h3, h4, h5⟩ := h
 refine ⟨hi, ⟨⟨v, (hk.2 ga (blk_lt a1) (by omega) (by simp)).trans a1, a2, a3, ?_⟩, fun k hk' => a5 k (Nat.le_trans hk.1 hk'), a6⟩, (hk.2 gr (blk_lt h3) (by omega) (by simp)).trans h3, hb, h5.trans hk (.inl rfl)⟩
 exact Kd.R_keep a4 hk (fun k hk' => by omega)
theorem AInv.below {w0 w W W1 : World} {gc gr ga B : Nat} {c : List Int} {ns : List S34} {ci ch : Int} (h : AInv w0 w W gc gr ga B c ns ci ch) (hb : Below W.heap.size W W1) : AInv w0 w W1 gc gr ga B c ns ci ch := by
 obtain ⟨h1, h2, h3, h4, h5⟩ := h
 exact ⟨h1.below hb, h2.keep hb, blk_below h3 hb, below_step h4 hb, h5.trans (KeepBut.of_below hb gc none) (.inl rfl)⟩
theorem AInv.put {w0 w W W1 : World} {gc gr ga B : Nat} {c : List Int} {ns : List S34} {ci ch : Int} {r : List S34 × Int} {e : Ending} (hf : AFix w0 w gc gr ga B) (h : AInv w0 w W gc gr ga B c ns ci ch) (hp : ArPost W w.heap.size ga (fun k => B ≤ k) r e W1) : AInv w0 w W1 gc gr ga B c r.1 ci ch := by
 obtain ⟨f1, f2, f3, f4, f5, f6, f7⟩ := hf
 obtain ⟨h1, h2, h3, h4, h5⟩ := h
 obtain ⟨p1, p2, p3, p4⟩ := hp
 have hn : ∀ k, k < B → k ≠ ga → ¬ Mine ga (fun k => B ≤ k) k := fun k a b hm => by rcases hm with hm | hm <;> omega
 exact ⟨h1.kept p4 (hn gc (by omega) (by omega)), p2, blk_kept h3 p4 (hn gr f5 f7), h4.trans (p3.mono f1), Kept.keep h5 p4 (fun k hm => by rcases hm with hm | hm <;> omega)⟩
theorem AInv.setA {w0 w W : World} {gc gr ga B : Nat} {c : List Int} {ci ch : Int} (hf : AFix w0 w gc gr ga B) (h : AInv w0 w W gc gr ga B c [] ci ch) : AInv w0 w (W.setCell ⟨ga, 0, none⟩ (.slice none 0 0)) gc gr ga B c [] ci ch := by
 obtain ⟨f1, f2, f3, f4, f5, f6, f7⟩ := hf
 obtain ⟨h1, ⟨⟨v, a1, a2, a3, a4⟩, a5, a6⟩, h3, h4, h5⟩ := h
 refine ⟨h1.far (show gc ≠ ga by omega) _, ⟨⟨_, blk_put a1 0 _ rfl, a2, a3, Kd.R_nil _ _ _ _ _⟩, fun k hk => a5 k (by simpa [World.setCell] using hk), a6⟩, blk_far h3 f7 _, below_set h4 (by omega), keep_far h5 (by omega) _⟩
theorem AInv.cur {w0 w W : World} {gc gr ga B : Nat} {c : List Int} {ns : List S34} {ci ch : Int} (h : AInv w0 w W gc gr ga B c ns ci ch) : IsS119 w0 W gc c ci ch := h.1
theorem AInv.ars {w0 w W : World} {gc gr ga B : Nat} {c : List Int} {ns : List S34} {ci ch : Int} (h : AInv w0 w W gc gr ga B c ns ci ch) : ArS W w.heap.size ga (fun k => B ≤ k) ns := h.2.1
theorem AInv.bel {w0 w W : World} {gc gr ga B : Nat} {c : List Int} {ns : List S34} {ci ch : Int} (h : AInv w0 w W gc gr ga B c ns ci ch) : Below w0.heap.size w0 W := h.2.2.2.1
theorem lit_of {W : World} {base : Nat} {ok : Nat → Prop} {v : Value} {xs : List Int} (h : Kd.R (Kd.int .i64) 3 W base ok v xs) : ∃ A c, v = .slice A xs.length c ∧ xs.length ≤ c ∧ Kd.C (Kd.int .i64) W A xs.length xs := Kd.R_reads h
theorem lit_far {W0 W : World} {ok : Nat → Prop} {A : Option Addr} {n c : Nat} {xs : List Int} {gc : Nat} (h : Kd.R (Kd.int .i64) 3 W W0.heap.size ok (.slice A n c) xs) (hg : gc < W0.heap.size) : ∀ ad, A = some ad → 0 < xs.length → ad.block ≠ gc := by
 rintro ad rfl _ rfl
 have := Kd.R_base h ad.block (by simp [Value.ownBlock])
 omega
end Hand
open Hand in
def spec_l03Arena.f (s0_0 : List Int) (s0_1 : Int) (s0_2 : Int) : Option ((List (S34)) × Int × Int) := arenaLoop 13 s0_0 s0_1 s0_2 0 []
open Hand in
set_option maxHeartbeats 8000000 in
set_option maxRecDepth 100000 in
theorem spec_l03Arena.calls (g : Nat) (s0_0 : List Int) (s0_1 : Int) (s0_2 : Int) (r1 : List (S34)) (r2 : Int) (r3 : Int) (w0 w : World) (hI : IsS119 w0 w g s0_0 s0_1 s0_2) (hB : Below w0.heap.size w0 w) (h : spec_l03Arena.f s0_0 s0_1 s0_2 = some (r1, r2, r3)) :
  Calls Try.prog 69 #[.pointer (some ⟨g, 0, none⟩)] w fun e w' => ∃ v0_ : Value, e = .returned (.agg #[v0_]) ∧ Kd.R k34 34 w' w.heap.size (fun _ => True) v0_ r1 ∧ IsS119 w0 w' g s0_0 r2 r3 ∧ Below w0.heap.size w0 w' ∧ KeepBut w w' g none := by
 have hu26 := Try.underlying26
 unfold spec_l03Arena.f at h
 have HI := Aside0.mk hI
 have HB := Aside0.mk hB
 have H' := Aside0.mk h
 clear hI hB h
 go_enter Try.func69, Try.ntmps69
 go_wp2_with (first | ((with_reducible refine gate_dst (N := 2) rfl ?_); refine box_event ?hg (N := 2) ?hd (cs := #[.slice none 0 0]) (t := 26) ?hr ?_; (case hd => rfl); (case hg => rfl); (case hr => first | (go_simp; done) | (go_simp; rfl)); intro gr hg1 w3 hbox hb; have BKr := Aside0.mk hbox; have HB3 := Aside0.mk hb; have GR := Aside0.mk hg1; clear hg1 hbox hb) | ((with_reducible refine gate_dst (N := 3) rfl ?_); refine box_event ?hg (N := 3) ?hd (cs := #[.slice none 0 0]) (t := 26) ?hr ?_; (case hd => rfl); (case hg => rfl); (case hr => first | (go_simp; done) | (go_simp; rfl)); intro ga hg1 w4 hbox hb; have BKa := Aside0.mk hbox; have HB4 := Aside0.mk hb; have GA := Aside0.mk hg1; clear hg1 hbox hb; have hca4 : w4.cell? ⟨ga, 0, none⟩ = some (.slice none 0 0) := (blk_cell BKa.out 0).trans rfl; have hfa4 := blk_frozen BKa.out 0))
 have HF : Aside0 (AFix w0 w g gr ga w4.heap.size) := ⟨⟨HB.out.size, HI.out.lt, by rw [GR.out]; exact Nat.le_refl _, by rw [GA.out]; exact HB3.out.size, blk_lt (blk_below BKr.out HB4.out), blk_lt BKa.out, by rw [GA.out]; exact Nat.ne_of_lt (blk_lt BKr.out)⟩⟩
 have AI4 : Aside0 (AInv w0 w w4 g gr ga w4.heap.size s0_0 [] s0_1 s0_2) := ⟨⟨(HI.out.below HB3.out).below HB4.out, ⟨⟨_, BKa.out, HF.out.2.2.2.1, fun h => by have := HF.out.2.2.2.2.2.1; omega, Kd.R_nil _ _ _ _ _⟩, fun k hk => hk, by simp⟩, blk_below BKr.out HB4.out, below_step (below_step HB.out HB3.out) HB4.out, KeepBut.of_below (below_step HB3.out HB4.out) _ _⟩⟩
 clear HB3 HB4 BKa GA GR
 have AI4 := Aside0.mk (AInv.setA HF.out AI4.out)
 generalize w4.setCell ⟨ga, 0, none⟩ (.slice none 0 0) = w5 at AI4 ⊢
 go_loopg [4] 13 (fun kq v4 wr => ∃ (j ci ch : Int) (ns : List S34), v4 = .int .i64 j ∧ 0 ≤ j ∧ j ≤ 12 ∧ Aside0 (arenaLoop kq s0_0 ci ch j ns = some (r1, r2, r3)) ∧ Aside0 (AInv w0 w wr g gr ga w4.heap.size s0_0 ns ci ch))
 case atStart => exact ⟨0, s0_1, s0_2, [], rfl, by omega, by omega, H', AI4⟩
 case round =>
  clear H' AI4
  obtain ⟨j, ci, ch, ns, rfl, hj0, hj1, HA, AI5⟩ := hrel
  cases gk with
  | zero => exact absurd HA.out (by simp [arenaLoop])
  | succ k1 =>
   have H := HA.out
   clear HA
   simp only [arenaLoop] at H
   obtain ⟨⟨b1, b2, b3⟩, A6, H⟩ := Option.bind_eq_some_iff.1 H
   by_cases hb : 0 ≤ b1 ∧ b1 ≤ 9
   ·rw [if_pos hb] at H
    have A6 := Aside0.mk A6
    obtain ⟨hb0, hb9⟩ := hb
    by_cases hjb : j < 3 + b1
    ·rw [if_pos hjb] at H
     have hjd : decide (j < 3 + b1) = true := decide_eq_true hjb
     have hj11 : j ≤ 11 := by omega
     clear hjb
     obtain ⟨⟨s1, s2, s3⟩, AB, H⟩ := Option.bind_eq_some_iff.1 H
     have H' := Aside0.mk H
     clear H
     have HJ := Aside0.mk (show 0 ≤ j ∧ j ≤ 11 from ⟨hj0, hj11⟩)
     unfold arenaBody at AB
     obtain ⟨⟨o1, o2, o3⟩, AO, AB⟩ := Option.bind_eq_some_iff.1 AB
     by_cases hn : ns.length < 2
     ·rw [if_pos hn] at AO
      obtain ⟨rfl, rfl, rfl⟩ : true = o1 ∧ b2 = o2 ∧ b3 = o3 := by simpa using AO
      have hn0 : decide ((ns.length : Int) < 2) = true := decide_eq_true (by omega)
      have hn1 : decide (ns.length < 2) = true := decide_eq_true hn
      clear hn AO
      rw [if_pos rfl] at AB
      obtain ⟨⟨p1, p2, p3⟩, AP, AB⟩ := Option.bind_eq_some_iff.1 AB
      have AP := Aside0.mk AP
      obtain ⟨rfl, rfl, rfl⟩ : (putN ns ⟨1, p1, 0, 0⟩).1 = s1 ∧ p2 = s2 ∧ p3 = s3 := by simpa using AB
      clear AB
      go_wp2_with (first | (go_at_call 70; ((with_reducible refine (spec_l01Below.calls g s0_0 ci ch 10 b1 b2 b3 w0 _ AI5.out.cur AI5.out.bel A6.out).mono ?_); rintro e w6 ⟨rfl, hi, hb, hk⟩); have AI6 := Aside0.mk (AInv.draw HF.out AI5.out hi hb hk); clear hi hb hk; obtain ⟨v5, hv5, _, _, hr5⟩ := AI6.out.ars.1; obtain ⟨A5, c5, rfl, _, _⟩ := Kd.R_reads hr5; have HG5 := Aside0.mk hv5; clear hv5 hr5; have hcg5 : w6.cell? ⟨ga, 0, none⟩ = some (.slice A5 ns.length c5) := (blk_cell HG5.out 0).trans rfl) | ((with_reducible refine gate_dst (N := 27) rfl ?_); refine Kd.R_lit (Kd.int .i64) _ 3 ?hg (N := 27) ?hd (xs := ([0, 1, 5, 1000, 5000, 10000, 10001] : List Int)) (inner := [.int .i64 0, .int .i64 1, .int .i64 5, .int .i64 1000, .int .i64 5000, .int .i64 10000, .int .i64 10001]) (ok := fun _ => True) (okp := fun _ => True) ?hr ?hp (fun _ hk => hk) trivial (Below.refl _ _) (Nat.le_refl _) (by simp) ?_; (case hd => rfl); (case hg => rfl); (case hr => first | (go_simp; done) | (go_simp; rfl)); (case hp => exact (Reps.one (show Kd.M (Kd.int .i64) _ _ _ 0 [.int .i64 0] from rfl) (Reps.one (show Kd.M (Kd.int .i64) _ _ _ 1 [.int .i64 1] from rfl) (Reps.one (show Kd.M (Kd.int .i64) _ _ _ 5 [.int .i64 5] from rfl) (Reps.one (show Kd.M (Kd.int .i64) _ _ _ 1000 [.int .i64 1000] from rfl) (Reps.one (show Kd.M (Kd.int .i64) _ _ _ 5000 [.int .i64 5000] from rfl) (Reps.one (show Kd.M (Kd.int .i64) _ _ _ 10000 [.int .i64 10000] from rfl) (Reps.one (show Kd.M (Kd.int .i64) _ _ _ 10001 [.int .i64 10001] from rfl) (Reps.none _ _))))))))); intro vl wl hol hbl hgl hnl; obtain ⟨Al, cl, rfl, hcl, hCl⟩ := lit_of hol; have AIl := Aside0.mk (AInv.below AI6.out hbl); have HCl := Aside0.mk hCl; have HCc := Aside0.mk hcl; have HAl := Aside0.mk (lit_far (gc := g) hol AI6.out.cur.lt); clear hol hbl hgl hnl hcl hCl) | (go_at_call 110; ((refine (spec_l01PickInt.calls g s0_0 b2 b3 Al cl _ p1 p2 p3 w0 _ AIl.out.cur AIl.out.bel HCl.out HCc.out HAl.out AP.out).mono ?_); rintro e w8 ⟨rfl, hi, hb, hk⟩); have AI8 := Aside0.mk (AInv.draw HF.out AIl.out hi hb hk); clear hi hb hk) | (go_at_call 113; ((with_reducible refine (spec_put ns ⟨1, p1, 0, 0⟩ _ _ _ _ AI8.out.ars).mono ?_); rintro e w9 hp); have AI9 := Aside0.mk (AInv.put HF.out AI8.out hp); have HE9 := Aside0.mk hp.1; obtain ⟨rfl, _⟩ := hp))
      go_roundg k1
      case measure => exact Nat.lt_succ_self k1
      case rel => exact ⟨j + 1, p2, p3, _, by first | rfl | (simp only [Value.int.injEq, true_and]; exact w64 (by have := HJ.out; omega) (by have := HJ.out; omega)), by have := HJ.out; omega, by have := HJ.out; omega, H', AI9⟩
     ·rw [if_neg hn] at AO
      have hn0 : decide ((ns.length : Int) < 2) = false := decide_eq_false (by omega)
      have hn1 : decide (ns.length < 2) = false := decide_eq_false hn
      have AO := Aside0.mk AO
      clear hn
      by_cases ho : o1 = true
      ·subst ho
       rw [if_pos rfl] at AB
       obtain ⟨⟨p1, p2, p3⟩, AP, AB⟩ := Option.bind_eq_some_iff.1 AB
       have AP := Aside0.mk AP
       obtain ⟨rfl, rfl, rfl⟩ : (putN ns ⟨1, p1, 0, 0⟩).1 = s1 ∧ p2 = s2 ∧ p3 = s3 := by simpa using AB
       clear AB
       go_wp2_with (first | (go_at_call 70; ((with_reducible refine (spec_l01Below.calls g s0_0 ci ch 10 b1 b2 b3 w0 _ AI5.out.cur AI5.out.bel A6.out).mono ?_); rintro e w6 ⟨rfl, hi, hb, hk⟩); have AI6 := Aside0.mk (AInv.draw HF.out AI5.out hi hb hk); clear hi hb hk; obtain ⟨v5, hv5, _, _, hr5⟩ := AI6.out.ars.1; obtain ⟨A5, c5, rfl, _, _⟩ := Kd.R_reads hr5; have HG5 := Aside0.mk hv5; clear hv5 hr5; have hcg5 : w6.cell? ⟨ga, 0, none⟩ = some (.slice A5 ns.length c5) := (blk_cell HG5.out 0).trans rfl) | (go_at_call 117; ((with_reducible refine (spec_l01Once.calls g s0_0 b2 b3 3 true o2 o3 w0 _ AI6.out.cur AI6.out.bel AO.out).mono ?_); rintro e w7 ⟨rfl, hi, hb, hk⟩); have AI7 := Aside0.mk (AInv.draw HF.out AI6.out hi hb hk); clear hi hb hk) | ((with_reducible refine gate_dst (N := 27) rfl ?_); refine Kd.R_lit (Kd.int .i64) _ 3 ?hg (N := 27) ?hd (xs := ([0, 1, 5, 1000, 5000, 10000, 10001] : List Int)) (inner := [.int .i64 0, .int .i64 1, .int .i64 5, .int .i64 1000, .int .i64 5000, .int .i64 10000, .int .i64 10001]) (ok := fun _ => True) (okp := fun _ => True) ?hr ?hp (fun _ hk => hk) trivial (Below.refl _ _) (Nat.le_refl _) (by simp) ?_; (case hd => rfl); (case hg => rfl); (case hr => first | (go_simp; done) | (go_simp; rfl)); (case hp => exact (Reps.one (show Kd.M (Kd.int .i64) _ _ _ 0 [.int .i64 0] from rfl) (Reps.one (show Kd.M (Kd.int .i64) _ _ _ 1 [.int .i64 1] from rfl) (Reps.one (show Kd.M (Kd.int .i64) _ _ _ 5 [.int .i64 5] from rfl) (Reps.one (show Kd.M (Kd.int .i64) _ _ _ 1000 [.int .i64 1000] from rfl) (Reps.one (show Kd.M (Kd.int .i64) _ _ _ 5000 [.int .i64 5000] from rfl) (Reps.one (show Kd.M (Kd.int .i64) _ _ _ 10000 [.int .i64 10000] from rfl) (Reps.one (show Kd.M (Kd.int .i64) _ _ _ 10001 [.int .i64 10001] from rfl) (Reps.none _ _))))))))); intro vl wl hol hbl hgl hnl; obtain ⟨Al, cl, rfl, hcl, hCl⟩ := lit_of hol; have AIl := Aside0.mk (AInv.below AI7.out hbl); have HCl := Aside0.mk hCl; have HCc := Aside0.mk hcl; have HAl := Aside0.mk (lit_far (gc := g) hol AI7.out.cur.lt); clear hol hbl hgl hnl hcl hCl) | (go_at_call 110; ((refine (spec_l01PickInt.calls g s0_0 o2 o3 Al cl _ p1 p2 p3 w0 _ AIl.out.cur AIl.out.bel HCl.out HCc.out HAl.out AP.out).mono ?_); rintro e w8 ⟨rfl, hi, hb, hk⟩); have AI8 := Aside0.mk (AInv.draw HF.out AIl.out hi hb hk); clear hi hb hk) | (go_at_call 113; ((with_reducible refine (spec_put ns ⟨1, p1, 0, 0⟩ _ _ _ _ AI8.out.ars).mono ?_); rintro e w9 hp); have AI9 := Aside0.mk (AInv.put HF.out AI8.out hp); have HE9 := Aside0.mk hp.1; obtain ⟨rfl, _⟩ := hp))
       go_roundg k1
       case measure => exact Nat.lt_succ_self k1
       case rel => exact ⟨j + 1, p2, p3, _, by first | rfl | (simp only [Value.int.injEq, true_and]; exact w64 (by have := HJ.out; omega) (by have := HJ.out; omega)), by have := HJ.out; omega, by have := HJ.out; omega, H', AI9⟩
      ·have ho : o1 = false := by simpa using ho
       subst ho
       rw [if_neg (by simp)] at AB
       obtain ⟨⟨q1, q2, q3⟩, AQ, AB⟩ := Option.bind_eq_some_iff.1 AB
       by_cases hq : 0 ≤ q1 ∧ q1 ≤ 7
       ·rw [if_pos hq] at AB
        have AQ := Aside0.mk AQ
        obtain ⟨hq0, hq7⟩ := hq
        obtain ⟨⟨x1, x2, x3⟩, AX, AB⟩ := Option.bind_eq_some_iff.1 AB
        obtain ⟨⟨y1, y2, y3⟩, AY, AB⟩ := Option.bind_eq_some_iff.1 AB
        have AX := Aside0.mk AX
        have AY := Aside0.mk AY
        by_cases hone : 2 + q1 = 3 ∨ 2 + q1 = 6
        ·rw [if_pos hone] at AB
         have HO := Aside0.mk ((spec_One_f (2 + q1)).trans (congrArg some (decide_eq_true hone)))
         obtain ⟨rfl, rfl, rfl⟩ : (putN ns ⟨2 + q1, 0, x1, 0⟩).1 = s1 ∧ y2 = s2 ∧ y3 = s3 := by simpa using AB
         clear AB hone
         go_wp2_with (first | (go_at_call 70; ((with_reducible refine (spec_l01Below.calls g s0_0 ci ch 10 b1 b2 b3 w0 _ AI5.out.cur AI5.out.bel A6.out).mono ?_); rintro e w6 ⟨rfl, hi, hb, hk⟩); have AI6 := Aside0.mk (AInv.draw HF.out AI5.out hi hb hk); clear hi hb hk; obtain ⟨v5, hv5, _, _, hr5⟩ := AI6.out.ars.1; obtain ⟨A5, c5, rfl, _, _⟩ := Kd.R_reads hr5; have HG5 := Aside0.mk hv5; clear hv5 hr5; have hcg5 : w6.cell? ⟨ga, 0, none⟩ = some (.slice A5 ns.length c5) := (blk_cell HG5.out 0).trans rfl) | (go_at_call 117; ((with_reducible refine (spec_l01Once.calls g s0_0 b2 b3 3 false o2 o3 w0 _ AI6.out.cur AI6.out.bel AO.out).mono ?_); rintro e w7 ⟨rfl, hi, hb, hk⟩); have AI7 := Aside0.mk (AInv.draw HF.out AI6.out hi hb hk); clear hi hb hk) | (go_at_call 70; ((with_reducible refine (spec_l01Below.calls g s0_0 o2 o3 8 q1 q2 q3 w0 _ AI7.out.cur AI7.out.bel AQ.out).mono ?_); rintro e wa ⟨rfl, hi, hb, hk⟩); have AIa := Aside0.mk (AInv.draw HF.out AI7.out hi hb hk); clear hi hb hk) | (go_at_call 70; ((with_reducible refine (spec_l01Below.calls g s0_0 q2 q3 (ns.length : Int) x1 x2 x3 w0 _ AIa.out.cur AIa.out.bel AX.out).mono ?_); rintro e wb ⟨rfl, hi, hb, hk⟩); have AIb := Aside0.mk (AInv.draw HF.out AIa.out hi hb hk); clear hi hb hk) | (go_at_call 70; ((with_reducible refine (spec_l01Below.calls g s0_0 x2 x3 (ns.length : Int) y1 y2 y3 w0 _ AIb.out.cur AIb.out.bel AY.out).mono ?_); rintro e wc ⟨rfl, hi, hb, hk⟩); have AIc := Aside0.mk (AInv.draw HF.out AIb.out hi hb hk); clear hi hb hk) | (go_at_call 111; ((with_reducible refine (spec_l03One.calls (2 + q1) true _ HO.out).mono ?_); rintro e wd ⟨rfl, hd⟩); have AId := Aside0.mk (AInv.below AIc.out hd.below); clear hd) | (go_at_call 113; ((with_reducible refine (spec_put ns ⟨2 + q1, 0, x1, 0⟩ _ _ _ _ AId.out.ars).mono ?_); rintro e w9 hp); have AI9 := Aside0.mk (AInv.put HF.out AId.out hp); have HE9 := Aside0.mk hp.1; obtain ⟨rfl, _⟩ := hp))
         go_roundg k1
         case measure => exact Nat.lt_succ_self k1
         case rel => exact ⟨j + 1, y2, y3, _, by first | rfl | (simp only [Value.int.injEq, true_and]; exact w64 (by have := HJ.out; omega) (by have := HJ.out; omega)), by have := HJ.out; omega, by have := HJ.out; omega, H', AI9⟩
        ·rw [if_neg hone] at AB
         have HO := Aside0.mk ((spec_One_f (2 + q1)).trans (congrArg some (decide_eq_false hone)))
         obtain ⟨rfl, rfl, rfl⟩ : (putN ns ⟨2 + q1, 0, x1, y1⟩).1 = s1 ∧ y2 = s2 ∧ y3 = s3 := by simpa using AB
         clear AB hone
         go_wp2_with (first | (go_at_call 70; ((with_reducible refine (spec_l01Below.calls g s0_0 ci ch 10 b1 b2 b3 w0 _ AI5.out.cur AI5.out.bel A6.out).mono ?_); rintro e w6 ⟨rfl, hi, hb, hk⟩); have AI6 := Aside0.mk (AInv.draw HF.out AI5.out hi hb hk); clear hi hb hk; obtain ⟨v5, hv5, _, _, hr5⟩ := AI6.out.ars.1; obtain ⟨A5, c5, rfl, _, _⟩ := Kd.R_reads hr5; have HG5 := Aside0.mk hv5; clear hv5 hr5; have hcg5 : w6.cell? ⟨ga, 0, none⟩ = some (.slice A5 ns.length c5) := (blk_cell HG5.out 0).trans rfl) | (go_at_call 117; ((with_reducible refine (spec_l01Once.calls g s0_0 b2 b3 3 false o2 o3 w0 _ AI6.out.cur AI6.out.bel AO.out).mono ?_); rintro e w7 ⟨rfl, hi, hb, hk⟩); have AI7 := Aside0.mk (AInv.draw HF.out AI6.out hi hb hk); clear hi hb hk) | (go_at_call 70; ((with_reducible refine (spec_l01Below.calls g s0_0 o2 o3 8 q1 q2 q3 w0 _ AI7.out.cur AI7.out.bel AQ.out).mono ?_); rintro e wa ⟨rfl, hi, hb, hk⟩); have AIa := Aside0.mk (AInv.draw HF.out AI7.out hi hb hk); clear hi hb hk) | (go_at_call 70; ((with_reducible refine (spec_l01Below.calls g s0_0 q2 q3 (ns.length : Int) x1 x2 x3 w0 _ AIa.out.cur AIa.out.bel AX.out).mono ?_); rintro e wb ⟨rfl, hi, hb, hk⟩); have AIb := Aside0.mk (AInv.draw HF.out AIa.out hi hb hk); clear hi hb hk) | (go_at_call 70; ((with_reducible refine (spec_l01Below.calls g s0_0 x2 x3 (ns.length : Int) y1 y2 y3 w0 _ AIb.out.cur AIb.out.bel AY.out).mono ?_); rintro e wc ⟨rfl, hi, hb, hk⟩); have AIc := Aside0.mk (AInv.draw HF.out AIb.out hi hb hk); clear hi hb hk) | (go_at_call 111; ((with_reducible refine (spec_l03One.calls (2 + q1) false _ HO.out).mono ?_); rintro e wd ⟨rfl, hd⟩); have AId := Aside0.mk (AInv.below AIc.out hd.below); clear hd) | (go_at_call 113; ((with_reducible refine (spec_put ns ⟨2 + q1, 0, x1, y1⟩ _ _ _ _ AId.out.ars).mono ?_); rintro e w9 hp); have AI9 := Aside0.mk (AInv.put HF.out AId.out hp); have HE9 := Aside0.mk hp.1; obtain ⟨rfl, _⟩ := hp))
         go_roundg k1
         case measure => exact Nat.lt_succ_self k1
         case rel => exact ⟨j + 1, y2, y3, _, by first | rfl | (simp only [Value.int.injEq, true_and]; exact w64 (by have := HJ.out; omega) (by have := HJ.out; omega)), by have := HJ.out; omega, by have := HJ.out; omega, H', AI9⟩
       ·rw [if_neg hq] at AB
        cases AB
    ·rw [if_neg hjb] at H
     have hjd : decide (j < 3 + b1) = false := decide_eq_false hjb
     obtain ⟨rfl, rfl, rfl⟩ : ns = r1 ∧ b2 = r2 ∧ b3 = r3 := by simpa using H
     clear hjb H
     go_wp2_with (first | (go_at_call 70; ((with_reducible refine (spec_l01Below.calls g s0_0 ci ch 10 b1 b2 b3 w0 _ AI5.out.cur AI5.out.bel A6.out).mono ?_); rintro e w6 ⟨rfl, hi, hb, hk⟩); have AI6 := Aside0.mk (AInv.draw HF.out AI5.out hi hb hk); clear hi hb hk; obtain ⟨v5, hv5, _, _, hr5⟩ := AI6.out.ars.1; obtain ⟨A5, c5, rfl, _, _⟩ := Kd.R_reads hr5; have HG5 := Aside0.mk hv5; have HR5 := Aside0.mk hr5; clear hv5 hr5; have hcg5 : w6.cell? ⟨ga, 0, none⟩ = some (.slice A5 ns.length c5) := (blk_cell HG5.out 0).trans rfl; have hcr6 : w6.cell? ⟨gr, 0, none⟩ = some (.slice none 0 0) := (blk_cell AI6.out.2.2.1 0).trans rfl; have hfr6 := blk_frozen AI6.out.2.2.1 0))
     refine bodyPost_ret (results_cell_row rfl _ _ gr 26 #[.slice A5 ns.length c5] (0, 0) _ rfl (blk_put AI6.out.2.2.1 0 _ rfl) Try.underlying26 rfl (by kernel_rfl)) rfl ?_
     exact ⟨_, rfl, Kd.R_mono (Kd.R_far (p := ⟨gr, 0, none⟩) HR5.out (fun k hk e => by have e' : k = gr := e; have := HF.out.2.2.2.2.1; omega) _) (fun _ _ => trivial), AI6.out.1.far (show g ≠ gr by have := HF.out.2.1; have := HF.out.2.2.1; omega) _, below_set AI6.out.bel (show w0.heap.size ≤ gr by have := HF.out.1; have := HF.out.2.2.1; omega), keep_far AI6.out.2.2.2.2 (show w.heap.size ≤ gr from HF.out.2.2.1) _⟩
   ·rw [if_neg hb] at H
    cases H
namespace Hand

end Hand

/-! ### spec_DrawKnown: function 15 -/
def spec_DrawKnown.l0 : Nat → List Int → Int → List Int → Int → Int → List (S34) → Option ((List (S34)) × List Int)
  | 0, _, _, _, _, _, _ => none
  | k + 1, x6, x7, x153000, x153001, x153002, x159000 => (spec_l01Below.f x153000 x153001 x153002 5).bind fun bt162 => (if x7 < bt162.1 then ((spec_l01Below.f x153000 bt162.2.1 bt162.2.2 (x159000.length : Int)).bind fun bt165 => (if x6.length < 17592186044416 then (spec_DrawKnown.l0 k (x6 ++ [bt165.1]) (wrap64 (x7 + 1)) x153000 bt165.2.1 bt165.2.2 x159000) else (none))) else (some (x159000, x6)))
def spec_DrawKnown.f (k : Nat) (l0 : List Int) : Option ((List (S34)) × List Int) := (spec_l01New.f k l0).bind fun bt149 => ((spec_l03Arena.f bt149.1 bt149.2.1 bt149.2.2).bind fun bt153 => (spec_DrawKnown.l0 k (([] : List Int)) 0 bt149.1 bt153.2.1 bt153.2.2 bt153.1))
set_option maxHeartbeats 8000000 in
set_option maxRecDepth 100000 in
theorem spec_DrawKnown.calls (k : Nat) (A0 : Option Addr) (c0 : Nat) (l0 : List Int) (r1 : List (S34)) (r2 : List Int) (w : World) (hr0 : Kd.C (Kd.int .u8) w A0 l0.length l0) (hc0 : l0.length ≤ c0) (h : spec_DrawKnown.f k l0 = some (r1, r2)) :
  Calls Try.prog 15 #[.slice A0 l0.length c0] w fun e w' => ∃ v0_ v1_ : Value, e = .returned (.tuple #[.agg #[v0_], v1_]) ∧ Kd.R k34 34 w' w.heap.size (fun _ => True) v0_ r1 ∧ Kd.R (Kd.int .i64) 3 w' w.heap.size (fun _ => True) v1_ r2 ∧ Below w.heap.size w w' := by
 have hu26 := Try.underlying26
 have HR0 := Aside0.mk hr0
 have HC0 := Aside0.mk hc0
 clear hr0 hc0
 have HB := Aside0.mk (Below.refl w.heap.size w)
 have H : ((spec_l01New.f k l0).bind fun bt149 => ((spec_l03Arena.f bt149.1 bt149.2.1 bt149.2.2).bind fun bt153 => (spec_DrawKnown.l0 k (([] : List Int)) 0 bt149.1 bt153.2.1 bt153.2.2 bt153.1))) = some (r1, r2) := h
 clear h
 replace H := Option.bind_eq_some_iff.mp H
 obtain ⟨⟨t149, t150, t151⟩, A20, H⟩ := H
 replace H : ((spec_l03Arena.f t149 t150 t151).bind fun bt153 => (spec_DrawKnown.l0 k (([] : List Int)) 0 t149 bt153.2.1 bt153.2.2 bt153.1)) = some (r1, r2) := H
 have A2 := Aside0.mk A20
 clear A20
 replace H := Option.bind_eq_some_iff.mp H
 obtain ⟨⟨t153, t156, t157⟩, A30, H⟩ := H
 replace H : (spec_DrawKnown.l0 k (([] : List Int)) 0 t149 t156 t157 t153) = some (r1, r2) := H
 have A3 := Aside0.mk A30
 clear A30
 obtain ⟨y159, hy159⟩ : ∃ y_ : List Int, y_ = (([] : List Int)) := ⟨_, rfl⟩
 replace H : (spec_DrawKnown.l0 k y159 0 t149 t156 t157 t153) = some (r1, r2) := by first | (rw [hy159]; with_reducible exact H) | (have H2_ := (Option.bind_some _ _).symm.trans H; rw [hy159]; with_reducible exact H2_) | (have H2_ := (Option.bind_some _ _).symm.trans H; with_reducible exact H2_) | with_reducible exact H | (rw [hy159]; exact H) | exact H
 have Ny159 := Aside0.mk hy159
 clear hy159
 have H' := Aside0.mk H
 clear H
 go_enter Try.func15, Try.ntmps15
 go_wp2_with (first | ((with_reducible refine gate_dst (N := 2) rfl ?_); refine box_event ?hg (N := 2) ?hd (cs := #[.slice none 0 0]) (t := 26) ?hr ?_; (case hd => rfl); (case hg => rfl); (case hr => first | (go_simp; done) | (go_simp; rfl)); intro gb148 hg w4 hbox hb; have n0_ := Aside0.mk (below_step (bw HB.out) hb); have n1_ := Aside0.mk (hbox); have n2_ := Aside0.mk ((by rw [hg]; exact (below_size (bw HB.out)) : w.heap.size ≤ gb148)); have n3_ := Aside0.mk ((by rw [hg]; exact (below_size (bw HB.out)) : w.heap.size ≤ gb148)); clear HB; have HB := n0_; have BK148 := n1_; have GW148 := n2_; have GE148 := n3_; clear n0_ n1_ n2_ n3_ hb hbox hg) | ((with_reducible refine gate_callee (f := 68) rfl ?_); refine goesL_ (some 9) rfl rfl Try.func68 (by kernel_rfl) rfl #[.slice A0 l0.length c0] rfl ar ?_; (with_reducible refine (spec_l01New.calls k _ _ l0 t149 t150 t151 w _ ?side1 ?side2 ?side3 A2.out).mono ?_); (case side1 => exact bw HB.out); (case side2 => exact HR0.out); (case side3 => exact HC0.out); rintro e w5 ⟨g152, rfl, hi, hb, hb2⟩; refine ⟨_, rfl, ?_⟩; have n0_ := Aside0.mk (blk_below (g := gb148) (o := .cells #[.slice none 0 0] 26 (0, 0)) (bl BK148.out) hb2); have n1_ := Aside0.mk (hb); have n2_ := Aside0.mk (hi); have n3_ := Aside0.mk (IsS119.ne_blk hi (blk_below (g := gb148) (o := .cells #[.slice none 0 0] 26 (0, 0)) (bl BK148.out) hb2) (by decide)); have n4_ := Aside0.mk (Ne.symm (IsS119.ne_blk hi (blk_below (g := gb148) (o := .cells #[.slice none 0 0] 26 (0, 0)) (bl BK148.out) hb2) (by decide))); clear BK148 HB; have BK148 := n0_; have HB := n1_; have HI152 := n2_; have NB152_148 := n3_; have NB148_152 := n4_; clear n0_ n1_ n2_ n3_ n4_; (try clear hb); (try clear hb2); (try clear hk); (try clear hi)) | ((with_reducible refine gate_callee (f := 69) rfl ?_); refine goesL_ (some 11) rfl rfl Try.func69 (by kernel_rfl) rfl #[.pointer (some ⟨g152, 0, none⟩)] rfl ar ?_; (with_reducible refine (spec_l03Arena.calls g152 t149 t150 t151 t153 t156 t157 w _ ?side1 ?side2 A3.out).mono ?_); (case side1 => exact i9 HI152.out); (case side2 => exact b9 HB.out); rintro e w6 ⟨v154, rfl, ho0, hi, hb, hk⟩; refine ⟨_, rfl, ?_⟩; have n0_ := Aside0.mk (KeepBut.blk hk (g' := gb148) (o := .cells #[.slice none 0 0] 26 (0, 0)) (bl BK148.out) NB148_152.out (by simp)); have n1_ := Aside0.mk (Kd.R_lower ho0 (below_size (b9 HB.out))); have n2_ := Aside0.mk (hb); have n3_ := Aside0.mk (hi); clear BK148 HB HI152; have BK148 := n0_; have HO155 := n1_; have HB := n2_; have HI152 := n3_; clear n0_ n1_ n2_ n3_; (try clear hb); (try clear hb2); (try clear hk); (try clear hi); (try clear ho0)) | ((with_reducible refine gate_dst (N := 5) rfl ?_); refine box_event ?hg (N := 5) ?hd (cs := #[.slice none 0 0]) (t := 26) ?hr ?_; (case hd => rfl); (case hg => rfl); (case hr => first | (go_simp; done) | (go_simp; rfl)); intro gb158 hg w7 hbox hb; have n0_ := Aside0.mk (Kd.R_below (rl HO155.out) hb); have n1_ := Aside0.mk (blk_below (g := gb148) (o := .cells #[.slice none 0 0] 26 (0, 0)) (bl BK148.out) hb); have n2_ := Aside0.mk (IsS119.below (i9 HI152.out) hb); have n3_ := Aside0.mk (below_step (b9 HB.out) hb); have n4_ := Aside0.mk (hbox); have n5_ := Aside0.mk ((by rw [hg]; exact (below_size (b9 HB.out)) : w.heap.size ≤ gb158)); have n6_ := Aside0.mk ((by rw [hg]; exact (below_size (b9 HB.out)) : w.heap.size ≤ gb158)); have n7_ := Aside0.mk ((by rw [hg]; exact Nat.ne_of_lt (blk_lt (g := gb148) (o := .cells #[.slice none 0 0] 26 (0, 0)) (bl BK148.out)) : gb148 ≠ gb158)); have n8_ := Aside0.mk ((by rw [hg]; exact Nat.ne_of_gt (blk_lt (g := gb148) (o := .cells #[.slice none 0 0] 26 (0, 0)) (bl BK148.out)) : gb158 ≠ gb148)); have n9_ := Aside0.mk ((by rw [hg]; exact Nat.ne_of_lt (IsS119.lt (show IsS119 w _ g152 t149 t156 t157 from i9 HI152.out)) : g152 ≠ gb158)); have n10_ := Aside0.mk ((by rw [hg]; exact Nat.ne_of_gt (IsS119.lt (show IsS119 w _ g152 t149 t156 t157 from i9 HI152.out)) : gb158 ≠ g152)); clear HO155 BK148 HI152 HB; have HO155 := n0_; have BK148 := n1_; have HI152 := n2_; have HB := n3_; have BK158 := n4_; have GW158 := n5_; have GE158 := n6_; have NB148_158 := n7_; have NB158_148 := n8_; have NB152_158 := n9_; have NB158_152 := n10_; clear n0_ n1_ n2_ n3_ n4_ n5_ n6_ n7_ n8_ n9_ n10_ hb hbox hg; obtain ⟨Ao8, co8, eo8⟩ := Kd.R_slice HO155.out; subst eo8; have hnb9 := NB158_148.out; have hnc9 := NB148_158.out; have hnb10 := NB158_152.out; have hnc10 := NB152_158.out; have hcz11_0 : w7.cell? ⟨gb158, 0, none⟩ = some (.slice none 0 0) := (blk_cell BK158.out 0).trans rfl; have hfz11_0 := blk_frozen BK158.out 0) | ((with_reducible refine gate_dst (N := 12) rfl ?_); refine Kd.R_lit (Kd.int .i64) _ 3 ?hg (N := 12) ?hd (xs := ([] : List Int)) (inner := []) (ok := fun _ => True) (okp := fun _ => True) ?hr ?hp (fun _ hk => hk) trivial (Below.refl _ _) (Nat.le_refl _) (by simp) ?_; (case hd => rfl); (case hg => rfl); (case hr => first | (go_simp; done) | (go_simp; rfl)); (case hp => exact (Reps.none _ _)); intro v160 w12 ho13 hb hg_ hnew_; clear hg_ hnew_; (first | rw [← Ny159.out] at ho13 | (simp only [Int.reduceToNat] at ho13; rw [← Ny159.out] at ho13)); have n0_ := Aside0.mk (Kd.R_below (by (with_reducible repeat (first | apply Kd.R_alloc | apply Kd.R_drewN | apply Kd.R_drew)); exact (Kd.R_mono (Kd.R_far (p := ⟨gb158, 0, none⟩) (Kd.R_types HO155.out BK158.out (by decide)) (fun _ hk => hk.2) (.slice Ao8 t153.length co8)) (fun _ h_ => h_.1))) hb); have n1_ := Aside0.mk (Kd.R_lower ho13 (below_size (b9 HB.out))); have n2_ := Aside0.mk (blk_below (g := gb148) (o := .cells #[.slice none 0 0] 26 (0, 0)) (by (with_reducible repeat (first | refine blk_drewN ?_ _ | refine blk_drew ?_ | refine blk_alloc ?_ _)); refine blk_far ?_ NB148_158.out _; exact bl BK148.out) hb); have n3_ := Aside0.mk (IsS119.below (show IsS119 w (w7.setCell ⟨gb158, 0, none⟩ (.slice Ao8 t153.length co8)) g152 t149 t156 t157 from i9 HI152.out) hb); have n4_ := Aside0.mk (blk_below (g := gb158) (o := .cells #[.slice Ao8 t153.length co8] 26 (0, 0)) (by (with_reducible repeat (first | refine blk_drewN ?_ _ | refine blk_drew ?_ | refine blk_alloc ?_ _)); refine blk_put (cs := #[.slice none 0 0]) ?_ 0 _ rfl; exact bl BK158.out) hb); have n5_ := Aside0.mk (below_step (b9 HB.out) hb); clear HO155 BK148 HI152 BK158 HB; have HO155 := n0_; have HO161 := n1_; have BK148 := n2_; have HI152 := n3_; have BK158 := n4_; have HB := n5_; clear n0_ n1_ n2_ n3_ n4_ n5_ hb ho13))
 go_loopg [6, 7] k (fun kq v6 v7 w' => ∃ (x6_1 : List Int) (x7_1 : Int) (x153001_1 : Int) (x153002_1 : Int), v7 = .int .i64 x7_1 ∧ Aside0 (spec_DrawKnown.l0 kq x6_1 x7_1 t149 x153001_1 x153002_1 t153 = some (r1, r2)) ∧ Aside0 (kq ≤ k) ∧ Aside0 (Kd.R (Kd.int .i64) 3 w' w.heap.size (fun _ => True) v6 x6_1) ∧ Aside0 (Kd.R k34 34 w' w.heap.size (fun _ => True) (.slice Ao8 t153.length co8) t153) ∧ Aside0 (w'.heap[gb148]? = some (.cells #[(.slice none 0 0)] 26 (0, 0))) ∧ Aside0 (w'.heap[gb158]? = some (.cells #[(.slice Ao8 t153.length co8)] 26 (0, 0))) ∧ Aside0 (IsS119 w w' g152 t149 x153001_1 x153002_1) ∧ Aside0 (Below w.heap.size w w'))
 case atStart => exact ⟨(y159), (0), (t156), (t157), (by first | rfl | (simp; done) | (simp [*]; done)), H', ⟨Nat.le_refl _⟩, ⟨rl HO161.out⟩, ⟨rl HO155.out⟩, ⟨bl BK148.out⟩, ⟨bl BK158.out⟩, ⟨i9 HI152.out⟩, ⟨b9 HB.out⟩⟩
 case round =>
  clear H'
  try clear c1
  try clear p2
  try clear c6
  try clear c9
  try clear c10
  try clear hcz11_0
  try clear hfz11_0
  obtain ⟨x6_1, x7_1, x153001_1, x153002_1, rfl, HA, HK1, HO_6, HO_159000, BK148, BK158, HI152, HB⟩ := hrel
  cases gk with
  | zero => exact absurd HA.out (by simp [spec_DrawKnown.l0])
  | succ k1 =>
   have H := HA.out
   clear HA
   simp only [spec_DrawKnown.l0] at H
   replace H := Option.bind_eq_some_iff.mp H
   obtain ⟨⟨t162, t163, t164⟩, A140, H⟩ := H
   replace H : (if x7_1 < t162 then ((spec_l01Below.f t149 t163 t164 (t153.length : Int)).bind fun bt165 => (if x6_1.length < 17592186044416 then (spec_DrawKnown.l0 k1 (x6_1 ++ [bt165.1]) (wrap64 (x7_1 + 1)) t149 bt165.2.1 bt165.2.2 t153) else (none))) else (some (t153, x6_1))) = some (r1, r2) := H
   have A14 := Aside0.mk A140
   clear A140
   by_cases c15 : x7_1 < t162
   ·rw [if_pos c15] at H
    have c15b0 : decide (x7_1 < t162) = true := decide_eq_true c15
    clear c15
    replace H := Option.bind_eq_some_iff.mp H
    obtain ⟨⟨t165, t166, t167⟩, A160, H⟩ := H
    replace H : (if x6_1.length < 17592186044416 then (spec_DrawKnown.l0 k1 (x6_1 ++ [t165]) (wrap64 (x7_1 + 1)) t149 t166 t167 t153) else (none)) = some (r1, r2) := H
    have A16 := Aside0.mk A160
    clear A160
    by_cases c17 : x6_1.length < 17592186044416
    ·rw [if_pos c17] at H
     have LMc17 := Aside0.mk c17
     clear c17
     obtain ⟨y168, hy168⟩ : ∃ y_ : List Int, y_ = (x6_1 ++ [t165]) := ⟨_, rfl⟩
     replace H : (spec_DrawKnown.l0 k1 y168 (wrap64 (x7_1 + 1)) t149 t166 t167 t153) = some (r1, r2) := by first | (rw [hy168]; with_reducible exact H) | (have H2_ := (Option.bind_some _ _).symm.trans H; rw [hy168]; with_reducible exact H2_) | (have H2_ := (Option.bind_some _ _).symm.trans H; with_reducible exact H2_) | with_reducible exact H | (rw [hy168]; exact H) | exact H
     have Ny168 := Aside0.mk hy168
     clear hy168
     have H' := Aside0.mk H
     clear H
     go_wp2_with (first | ((with_reducible refine gate_callee (f := 70) rfl ?_); refine goesL_ (some 15) rfl rfl Try.func70 (by kernel_rfl) rfl #[.pointer (some ⟨g152, 0, none⟩), .int .i64 5] rfl ar ?_; (with_reducible refine (spec_l01Below.calls g152 t149 x153001_1 x153002_1 5 t162 t163 t164 w _ ?side1 ?side2 A14.out).mono ?_); (case side1 => exact i9 HI152.out); (case side2 => exact b9 HB.out); rintro e w18 ⟨rfl, hi, hb, hk⟩; refine ⟨_, rfl, ?_⟩; have n0_ := Aside0.mk (Kd.R_mono (Kd.R_keep (IsS119.apart (show IsS119 w _ g152 t149 x153001_1 x153002_1 from i9 HI152.out) (rl HO_6.out) (by decide)) hk (fun _ h => h.2)) (fun _ h => h.1)); have n1_ := Aside0.mk (Kd.R_mono (Kd.R_keep (IsS119.apart (show IsS119 w _ g152 t149 x153001_1 x153002_1 from i9 HI152.out) (rl HO_159000.out) (by decide)) hk (fun _ h => h.2)) (fun _ h => h.1)); have n2_ := Aside0.mk (KeepBut.blk hk (g' := gb148) (o := .cells #[.slice none 0 0] 26 (0, 0)) (bl BK148.out) NB148_152.out (by simp)); have n3_ := Aside0.mk (KeepBut.blk hk (g' := gb158) (o := .cells #[.slice Ao8 t153.length co8] 26 (0, 0)) (bl BK158.out) NB158_152.out (by simp)); have n4_ := Aside0.mk (hb); have n5_ := Aside0.mk (hi); clear HO_6 HO_159000 BK148 BK158 HB HI152; have HO_6 := n0_; have HO_159000 := n1_; have BK148 := n2_; have BK158 := n3_; have HB := n4_; have HI152 := n5_; clear n0_ n1_ n2_ n3_ n4_ n5_; (try clear hb); (try clear hb2); (try clear hk); (try clear hi); have hnb19 := NB158_148.out; have hnc19 := NB148_158.out; have hnb20 := NB158_152.out; have hnc20 := NB152_158.out; have hcz21_0 : w18.cell? ⟨gb158, 0, none⟩ = some (.slice Ao8 t153.length co8) := (blk_cell BK158.out 0).trans rfl; have hfz21_0 := blk_frozen BK158.out 0) | ((with_reducible refine gate_callee (f := 70) rfl ?_); refine goesL_ (some 24) rfl rfl Try.func70 (by kernel_rfl) rfl #[.pointer (some ⟨g152, 0, none⟩), .int .i64 (t153.length : Int)] rfl ar ?_; (with_reducible refine (spec_l01Below.calls g152 t149 t163 t164 (t153.length : Int) t165 t166 t167 w _ ?side1 ?side2 A16.out).mono ?_); (case side1 => exact i9 HI152.out); (case side2 => exact b9 HB.out); rintro e w22 ⟨rfl, hi, hb, hk⟩; refine ⟨_, rfl, ?_⟩; have n0_ := Aside0.mk (Kd.R_mono (Kd.R_keep (IsS119.apart (show IsS119 w _ g152 t149 t163 t164 from i9 HI152.out) (rl HO_6.out) (by decide)) hk (fun _ h => h.2)) (fun _ h => h.1)); have n1_ := Aside0.mk (Kd.R_mono (Kd.R_keep (IsS119.apart (show IsS119 w _ g152 t149 t163 t164 from i9 HI152.out) (rl HO_159000.out) (by decide)) hk (fun _ h => h.2)) (fun _ h => h.1)); have n2_ := Aside0.mk (KeepBut.blk hk (g' := gb148) (o := .cells #[.slice none 0 0] 26 (0, 0)) (bl BK148.out) NB148_152.out (by simp)); have n3_ := Aside0.mk (KeepBut.blk hk (g' := gb158) (o := .cells #[.slice Ao8 t153.length co8] 26 (0, 0)) (bl BK158.out) NB158_152.out (by simp)); have n4_ := Aside0.mk (hb); have n5_ := Aside0.mk (hi); clear HO_6 HO_159000 BK148 BK158 HB HI152; have HO_6 := n0_; have HO_159000 := n1_; have BK148 := n2_; have BK158 := n3_; have HB := n4_; have HI152 := n5_; clear n0_ n1_ n2_ n3_ n4_ n5_; (try clear hb); (try clear hb2); (try clear hk); (try clear hi)) | ((with_reducible refine gate_builtin (b := .append) (xs := #[.tmp 19, .tmp 25]) rfl ?_); at_builtin; refine Kd.R_append (Kd.int .i64) (w0 := w) w.heap.size rfl (.tmp 19) (.tmp 25) 27 3 (.int .i64 0) 8 rfl Try.underlying27 info3 rfl (by decide) (by omega) u6 x6_1 t165 [.int .i64 t165] (fun _ => True) (fun _ => False) rfl rfl ?aP (fun _ hk => hk.elim) ?aF ?aO ?aB ?aS ?aL ?_; (case aP => exact rfl); (case aB => exact (b9 HB.out)); (case aF => exact (fun _ _ => trivial)); (case aO => exact (rl HO_6.out)); (case aS => exact (below_size (b9 HB.out))); (case aL => have := LMc17.out; omega); intro v169 w23 ho hb hg hat; rw [← Ny168.out] at ho; have n0_ := Aside0.mk (Kd.R_over' (rl HO_159000.out) (Kd.R_typed (rl HO_6.out)) (by decide) hg); have n1_ := Aside0.mk (blk_grown (g := gb148) (o := .cells #[.slice none 0 0] 26 (0, 0)) (bl BK148.out) hg (Kd.R_ne HO_6.out BK148.out (by decide))); have n2_ := Aside0.mk (blk_grown (g := gb158) (o := .cells #[.slice Ao8 t153.length co8] 26 (0, 0)) (bl BK158.out) hg (Kd.R_ne HO_6.out BK158.out (by decide))); have n3_ := Aside0.mk (IsS119.grown (i9 HI152.out) hg (IsS119.own_ne HI152.out HO_6.out (by decide))); have n4_ := Aside0.mk (hb); have n5_ := Aside0.mk (ho); clear HO_159000 BK148 BK158 HI152 HB HO_6; have HO_159000 := n0_; have BK148 := n1_; have BK158 := n2_; have HI152 := n3_; have HB := n4_; have HO170 := n5_; clear n0_ n1_ n2_ n3_ n4_ n5_ ho hb hg hat))
     go_roundg k1
     case measure => have := HK1.out; omega
     case rel => exact ⟨(y168), (wrap64 (x7_1 + 1)), (t166), (t167), (by first | rfl | (simp; done) | (simp [*]; done)), H', ⟨by have := HK1.out; omega⟩, ⟨rl HO170.out⟩, ⟨rl HO_159000.out⟩, ⟨bl BK148.out⟩, ⟨bl BK158.out⟩, ⟨i9 HI152.out⟩, ⟨b9 HB.out⟩⟩
    ·rw [if_neg c17] at H
     exact absurd H (by simp)
   ·rw [if_neg c15] at H
    have c15b0 : decide (x7_1 < t162) = false := decide_eq_false c15
    clear c15
    simp only [Option.some.injEq, Prod.mk.injEq] at H
    obtain ⟨rfl, rfl⟩ := H
    go_wp2_with (first | ((with_reducible refine gate_callee (f := 70) rfl ?_); refine goesL_ (some 15) rfl rfl Try.func70 (by kernel_rfl) rfl #[.pointer (some ⟨g152, 0, none⟩), .int .i64 5] rfl ar ?_; (with_reducible refine (spec_l01Below.calls g152 t149 x153001_1 x153002_1 5 t162 t163 t164 w _ ?side1 ?side2 A14.out).mono ?_); (case side1 => exact i9 HI152.out); (case side2 => exact b9 HB.out); rintro e w24 ⟨rfl, hi, hb, hk⟩; refine ⟨_, rfl, ?_⟩; have n0_ := Aside0.mk (Kd.R_mono (Kd.R_keep (IsS119.apart (show IsS119 w _ g152 t149 x153001_1 x153002_1 from i9 HI152.out) (rl HO_6.out) (by decide)) hk (fun _ h => h.2)) (fun _ h => h.1)); have n1_ := Aside0.mk (Kd.R_mono (Kd.R_keep (IsS119.apart (show IsS119 w _ g152 t149 x153001_1 x153002_1 from i9 HI152.out) (rl HO_159000.out) (by decide)) hk (fun _ h => h.2)) (fun _ h => h.1)); have n2_ := Aside0.mk (KeepBut.blk hk (g' := gb148) (o := .cells #[.slice none 0 0] 26 (0, 0)) (bl BK148.out) NB148_152.out (by simp)); have n3_ := Aside0.mk (KeepBut.blk hk (g' := gb158) (o := .cells #[.slice Ao8 t153.length co8] 26 (0, 0)) (bl BK158.out) NB158_152.out (by simp)); have n4_ := Aside0.mk (hb); have n5_ := Aside0.mk (hi); clear HO_6 HO_159000 BK148 BK158 HB HI152; have HO_6 := n0_; have HO_159000 := n1_; have BK148 := n2_; have BK158 := n3_; have HB := n4_; have HI152 := n5_; clear n0_ n1_ n2_ n3_ n4_ n5_; (try clear hb); (try clear hb2); (try clear hk); (try clear hi); have hnb25 := NB158_148.out; have hnc25 := NB148_158.out; have hnb26 := NB158_152.out; have hnc26 := NB152_158.out; have hcz27_0 : w24.cell? ⟨gb158, 0, none⟩ = some (.slice Ao8 t153.length co8) := (blk_cell BK158.out 0).trans rfl; have hfz27_0 := blk_frozen BK158.out 0; have hnb28 := NB148_152.out; have hnc28 := NB152_148.out; have hcz29_0 : w24.cell? ⟨gb148, 0, none⟩ = some (.slice none 0 0) := (blk_cell BK148.out 0).trans rfl; have hfz29_0 := blk_frozen BK148.out 0))
    refine bodyPost_ret (results_ct rfl _ _ gb148 26 #[.slice Ao8 t153.length co8] (0, 0) _ rfl (by (with_reducible repeat (first | refine blk_drewN ?_ _ | refine blk_drew ?_ | refine blk_alloc ?_ _)); refine blk_put (cs := #[.slice none 0 0]) ?_ 0 _ rfl; exact bl BK148.out) Try.underlying26 rfl (by kernel_rfl)) rfl ?_
    exact ⟨_, _, by first | rfl | (simp [errW_none, errW_some] <;> rfl) | (simp [*, errW_none, errW_some] <;> rfl), by (with_reducible repeat (first | apply Kd.R_alloc | apply Kd.R_drewN | apply Kd.R_drew)); exact Kd.R_mono (Kd.R_far (p := ⟨gb148, 0, none⟩) (Kd.R_types HO_159000.out BK148.out (by decide)) (fun _ hk => hk.2) (.slice Ao8 t153.length co8)) (fun _ hk => trivial), by (with_reducible repeat (first | apply Kd.R_alloc | apply Kd.R_drewN | apply Kd.R_drew)); exact Kd.R_mono (Kd.R_far (p := ⟨gb148, 0, none⟩) (Kd.R_types HO_6.out BK148.out (by decide)) (fun _ hk => hk.2) (.slice Ao8 t153.length co8)) (fun _ hk => trivial), b9 HB.out⟩

/-! ### impl_within: function 75 -/
def impl_within.f (a0 : Int) (a1 : Int) (a2 : Int) : Option (Bool) := if a0 ≥ a1 then (some (decide (a0 ≤ a2))) else (some false)
set_option maxHeartbeats 8000000 in
set_option maxRecDepth 100000 in
theorem impl_within.calls (a0 : Int) (a1 : Int) (a2 : Int) (r : Bool) (w : World) (h : impl_within.f a0 a1 a2 = some r) :
  Calls Try.prog 75 #[.int .i64 a0, .int .i64 a1, .int .i64 a2] w fun e w' => e = .returned (.bool r) ∧ Drawn0 w w' := by
 have H : (if a0 ≥ a1 then (some (decide (a0 ≤ a2))) else (some false)) = some r := h
 clear h
 by_cases c4 : a0 ≥ a1
 ·rw [if_pos c4] at H
  have c4b0 : decide (a1 ≤ a0) = true := decide_eq_true c4
  clear c4
  obtain rfl := Option.some.inj H
  go_enter Try.func75, Try.ntmps75
  go_wp2
  go_ret
  exact ⟨by first | rfl | (simp; done) | (simp [*]; done), by repeat (first | exact Drawn0.refl _ | apply Drawn0.step)⟩
 ·rw [if_neg c4] at H
  have c4b0 : decide (a1 ≤ a0) = false := decide_eq_false c4
  clear c4
  obtain rfl := Option.some.inj H
  go_enter Try.func75, Try.ntmps75
  go_wp2
  go_ret
  exact ⟨by first | rfl | (simp; done) | (simp [*]; done), by repeat (first | exact Drawn0.refl _ | apply Drawn0.step)⟩

/-! ### impl_nodeRight: function 84 -/
def impl_nodeRight.j0 : Nat → Int → Bool → Int → Int → Int → Int → Option (Bool)
  | 0, _, _, _, _, _, _ => none
  | k + 1, x1, x22, x172000, x172001, x172002, x172003 => if x22 = true then (if x172001 = 0 then ((impl_within.f x172002 0 (wrap64 (x1 - 1))).bind fun t173 => (if t173 = true then (some (x172003 == 0)) else (some false))) else (some false)) else ((impl_within.f x172000 2 9).bind fun t174 => (if t174 = true then (if x172001 = 0 then ((impl_within.f x172002 0 (wrap64 (x1 - 1))).bind fun t175 => (if t175 = true then ((impl_within.f x172003 0 (wrap64 (x1 - 1))).bind fun t176 => (some t176)) else (some false))) else (some false)) else (some false)))
def impl_nodeRight.f (k : Nat) (a0_0 : Int) (a0_1 : Int) (a0_2 : Int) (a0_3 : Int) (a1 : Int) : Option (Bool) := if a0_0 = 1 then ((impl_within.f a0_1 0 999999).bind fun t172 => (if t172 = true then (if a0_2 = 0 then (some (a0_3 == 0)) else (some false)) else (some false))) else (if a0_0 = 3 then (impl_nodeRight.j0 k a1 (a0_0 == 3) a0_0 a0_1 a0_2 a0_3) else (impl_nodeRight.j0 k a1 (a0_0 == 6) a0_0 a0_1 a0_2 a0_3))
set_option maxHeartbeats 8000000 in
set_option maxRecDepth 100000 in
theorem impl_nodeRight.calls (k : Nat) (a0_0 : Int) (a0_1 : Int) (a0_2 : Int) (a0_3 : Int) (a1 : Int) (r : Bool) (w : World) (h : impl_nodeRight.f k a0_0 a0_1 a0_2 a0_3 a1 = some r) :
  Calls Try.prog 84 #[.agg #[.int .i64 a0_0, .int .i64 a0_1, .int .i64 a0_2, .int .i64 a0_3], .int .i64 a1] w fun e w' => e = .returned (.bool r) ∧ Below w.heap.size w w' := by
 have hu34 := Try.underlying34
 have HB := Aside0.mk (Below.refl w.heap.size w)
 have H : (if a0_0 = 1 then ((impl_within.f a0_1 0 999999).bind fun t172 => (if t172 = true then (if a0_2 = 0 then (some (a0_3 == 0)) else (some false)) else (some false))) else (if a0_0 = 3 then (impl_nodeRight.j0 k a1 (a0_0 == 3) a0_0 a0_1 a0_2 a0_3) else (impl_nodeRight.j0 k a1 (a0_0 == 6) a0_0 a0_1 a0_2 a0_3))) = some r := h
 clear h
 by_cases c3 : a0_0 = 1
 ·rw [if_pos c3] at H
  have c3b0 : (a0_0 == 1) = true := beq_iff_eq.mpr c3
  have c3b1 : (a0_0 != 1) = false := bne_eq_false_iff_eq.mpr c3
  clear c3
  replace H := Option.bind_eq_some_iff.mp H
  obtain ⟨t172, A40, H⟩ := H
  replace H : (if t172 = true then (if a0_2 = 0 then (some (a0_3 == 0)) else (some false)) else (some false)) = some r := H
  have A4 := Aside0.mk A40
  clear A40
  by_cases c5 : t172 = true
  ·subst c5
   have H1 : (if a0_2 = 0 then (some (a0_3 == 0)) else (some false)) = some r := by rw [if_pos rfl] at H; exact H
   clear H
   have H := H1
   clear H1
   by_cases c6 : a0_2 = 0
   ·rw [if_pos c6] at H
    have c6b0 : (a0_2 == 0) = true := beq_iff_eq.mpr c6
    have c6b1 : (a0_2 != 0) = false := bne_eq_false_iff_eq.mpr c6
    clear c6
    obtain rfl := Option.some.inj H
    go_enter Try.func84, Try.ntmps84
    go_wp2_with (first | ((with_reducible refine gate_dst (N := 2) rfl ?_); refine box_event ?hg (N := 2) ?hd (cs := #[.int .i64 a0_0, .int .i64 a0_1, .int .i64 a0_2, .int .i64 a0_3]) (t := 34) ?hr ?_; (case hd => rfl); (case hg => rfl); (case hr => first | (go_simp; done) | (go_simp; rfl)); intro gb171 hg w7 hbox hb; have n0_ := Aside0.mk (below_step (bw HB.out) hb); have n1_ := Aside0.mk (hbox); have n2_ := Aside0.mk ((by rw [hg]; exact (below_size (bw HB.out)) : w.heap.size ≤ gb171)); have n3_ := Aside0.mk ((by rw [hg]; exact (below_size (bw HB.out)) : w.heap.size ≤ gb171)); clear HB; have HB := n0_; have BK171 := n1_; have GW171 := n2_; have GE171 := n3_; clear n0_ n1_ n2_ n3_ hb hbox hg; have hcz8_0 : w7.cell? ⟨gb171, 0, none⟩ = some (.int .i64 a0_0) := (blk_cell BK171.out 0).trans rfl; have hcz8_1 : w7.cell? ⟨gb171, 1, none⟩ = some (.int .i64 a0_1) := (blk_cell BK171.out 1).trans rfl; have hcz8_2 : w7.cell? ⟨gb171, 2, none⟩ = some (.int .i64 a0_2) := (blk_cell BK171.out 2).trans rfl; have hcz8_3 : w7.cell? ⟨gb171, 3, none⟩ = some (.int .i64 a0_3) := (blk_cell BK171.out 3).trans rfl; have hfz8_0 := blk_frozen BK171.out 0; have hfz8_1 := blk_frozen BK171.out 1; have hfz8_2 := blk_frozen BK171.out 2; have hfz8_3 := blk_frozen BK171.out 3) | ((with_reducible refine gate_callee (f := 75) rfl ?_); refine goesL_ (some 11) rfl rfl Try.func75 (by kernel_rfl) rfl #[.int .i64 a0_1, .int .i64 0, .int .i64 999999] rfl ar ?_; (with_reducible refine (impl_within.calls a0_1 0 999999 true _ A4.out).mono ?_); rintro e w' ⟨rfl, ⟨nd, rfl⟩⟩; refine ⟨_, rfl, ?_⟩))
    go_ret
    exact ⟨by first | rfl | (simp [errW_none, errW_some] <;> rfl) | (simp [*, errW_none, errW_some] <;> rfl), bw HB.out⟩
   ·rw [if_neg c6] at H
    have c6b0 : (a0_2 == 0) = false := beq_eq_false_iff_ne.mpr c6
    have c6b1 : (a0_2 != 0) = true := bne_iff_ne.mpr c6
    obtain rfl := Option.some.inj H
    go_enter Try.func84, Try.ntmps84
    go_wp2_with (first | ((with_reducible refine gate_dst (N := 2) rfl ?_); refine box_event ?hg (N := 2) ?hd (cs := #[.int .i64 a0_0, .int .i64 a0_1, .int .i64 a0_2, .int .i64 a0_3]) (t := 34) ?hr ?_; (case hd => rfl); (case hg => rfl); (case hr => first | (go_simp; done) | (go_simp; rfl)); intro gb171 hg w9 hbox hb; have n0_ := Aside0.mk (below_step (bw HB.out) hb); have n1_ := Aside0.mk (hbox); have n2_ := Aside0.mk ((by rw [hg]; exact (below_size (bw HB.out)) : w.heap.size ≤ gb171)); have n3_ := Aside0.mk ((by rw [hg]; exact (below_size (bw HB.out)) : w.heap.size ≤ gb171)); clear HB; have HB := n0_; have BK171 := n1_; have GW171 := n2_; have GE171 := n3_; clear n0_ n1_ n2_ n3_ hb hbox hg; have hcz10_0 : w9.cell? ⟨gb171, 0, none⟩ = some (.int .i64 a0_0) := (blk_cell BK171.out 0).trans rfl; have hcz10_1 : w9.cell? ⟨gb171, 1, none⟩ = some (.int .i64 a0_1) := (blk_cell BK171.out 1).trans rfl; have hcz10_2 : w9.cell? ⟨gb171, 2, none⟩ = some (.int .i64 a0_2) := (blk_cell BK171.out 2).trans rfl; have hcz10_3 : w9.cell? ⟨gb171, 3, none⟩ = some (.int .i64 a0_3) := (blk_cell BK171.out 3).trans rfl; have hfz10_0 := blk_frozen BK171.out 0; have hfz10_1 := blk_frozen BK171.out 1; have hfz10_2 := blk_frozen BK171.out 2; have hfz10_3 := blk_frozen BK171.out 3) | ((with_reducible refine gate_callee (f := 75) rfl ?_); refine goesL_ (some 11) rfl rfl Try.func75 (by kernel_rfl) rfl #[.int .i64 a0_1, .int .i64 0, .int .i64 999999] rfl ar ?_; (with_reducible refine (impl_within.calls a0_1 0 999999 true _ A4.out).mono ?_); rintro e w' ⟨rfl, ⟨nd, rfl⟩⟩; refine ⟨_, rfl, ?_⟩))
    go_ret
    exact ⟨by first | rfl | (simp [errW_none, errW_some] <;> rfl) | (simp [*, errW_none, errW_some] <;> rfl), bw HB.out⟩
  ·replace c5 := Bool.eq_false_iff.mpr c5
   subst c5
   have H1 : (some false) = some r := by rw [if_neg (show ¬ (false = true) by decide)] at H; exact H
   clear H
   have H := H1
   clear H1
   obtain rfl := Option.some.inj H
   go_enter Try.func84, Try.ntmps84
   go_wp2_with (first | ((with_reducible refine gate_dst (N := 2) rfl ?_); refine box_event ?hg (N := 2) ?hd (cs := #[.int .i64 a0_0, .int .i64 a0_1, .int .i64 a0_2, .int .i64 a0_3]) (t := 34) ?hr ?_; (case hd => rfl); (case hg => rfl); (case hr => first | (go_simp; done) | (go_simp; rfl)); intro gb171 hg w11 hbox hb; have n0_ := Aside0.mk (below_step (bw HB.out) hb); have n1_ := Aside0.mk (hbox); have n2_ := Aside0.mk ((by rw [hg]; exact (below_size (bw HB.out)) : w.heap.size ≤ gb171)); have n3_ := Aside0.mk ((by rw [hg]; exact (below_size (bw HB.out)) : w.heap.size ≤ gb171)); clear HB; have HB := n0_; have BK171 := n1_; have GW171 := n2_; have GE171 := n3_; clear n0_ n1_ n2_ n3_ hb hbox hg; have hcz12_0 : w11.cell? ⟨gb171, 0, none⟩ = some (.int .i64 a0_0) := (blk_cell BK171.out 0).trans rfl; have hcz12_1 : w11.cell? ⟨gb171, 1, none⟩ = some (.int .i64 a0_1) := (blk_cell BK171.out 1).trans rfl; have hcz12_2 : w11.cell? ⟨gb171, 2, none⟩ = some (.int .i64 a0_2) := (blk_cell BK171.out 2).trans rfl; have hcz12_3 : w11.cell? ⟨gb171, 3, none⟩ = some (.int .i64 a0_3) := (blk_cell BK171.out 3).trans rfl; have hfz12_0 := blk_frozen BK171.out 0; have hfz12_1 := blk_frozen BK171.out 1; have hfz12_2 := blk_frozen BK171.out 2; have hfz12_3 := blk_frozen BK171.out 3) | ((with_reducible refine gate_callee (f := 75) rfl ?_); refine goesL_ (some 11) rfl rfl Try.func75 (by kernel_rfl) rfl #[.int .i64 a0_1, .int .i64 0, .int .i64 999999] rfl ar ?_; (with_reducible refine (impl_within.calls a0_1 0 999999 false _ A4.out).mono ?_); rintro e w' ⟨rfl, ⟨nd, rfl⟩⟩; refine ⟨_, rfl, ?_⟩))
   go_ret
   exact ⟨by first | rfl | (simp [errW_none, errW_some] <;> rfl) | (simp [*, errW_none, errW_some] <;> rfl), bw HB.out⟩
 ·rw [if_neg c3] at H
  have c3b0 : (a0_0 == 1) = false := beq_eq_false_iff_ne.mpr c3
  have c3b1 : (a0_0 != 1) = true := bne_iff_ne.mpr c3
  have HC13 := Aside0.mk H
  clear H
  go_enter Try.func84, Try.ntmps84
  go_upto_if 22 with (first | ((with_reducible refine gate_dst (N := 2) rfl ?_); refine box_event ?hg (N := 2) ?hd (cs := #[.int .i64 a0_0, .int .i64 a0_1, .int .i64 a0_2, .int .i64 a0_3]) (t := 34) ?hr ?_; (case hd => rfl); (case hg => rfl); (case hr => first | (go_simp; done) | (go_simp; rfl)); intro gb171 hg w14 hbox hb; have n0_ := Aside0.mk (below_step (bw HB.out) hb); have n1_ := Aside0.mk (hbox); have n2_ := Aside0.mk ((by rw [hg]; exact (below_size (bw HB.out)) : w.heap.size ≤ gb171)); have n3_ := Aside0.mk ((by rw [hg]; exact (below_size (bw HB.out)) : w.heap.size ≤ gb171)); clear HB; have HB := n0_; have BK171 := n1_; have GW171 := n2_; have GE171 := n3_; clear n0_ n1_ n2_ n3_ hb hbox hg; have hcz15_0 : w14.cell? ⟨gb171, 0, none⟩ = some (.int .i64 a0_0) := (blk_cell BK171.out 0).trans rfl; have hcz15_1 : w14.cell? ⟨gb171, 1, none⟩ = some (.int .i64 a0_1) := (blk_cell BK171.out 1).trans rfl; have hcz15_2 : w14.cell? ⟨gb171, 2, none⟩ = some (.int .i64 a0_2) := (blk_cell BK171.out 2).trans rfl; have hcz15_3 : w14.cell? ⟨gb171, 3, none⟩ = some (.int .i64 a0_3) := (blk_cell BK171.out 3).trans rfl; have hfz15_0 := blk_frozen BK171.out 0; have hfz15_1 := blk_frozen BK171.out 1; have hfz15_2 := blk_frozen BK171.out 2; have hfz15_3 := blk_frozen BK171.out 3))
  (try simp only [Act.put, List.setIfInBounds_toArray, List.set_cons_zero, List.set_cons_succ])
  go_cut [22] (fun v22 wc => ∃ (kq : Nat) (x22_12 : Bool), v22 = .bool x22_12 ∧ Aside0 (impl_nodeRight.j0 kq a1 x22_12 a0_0 a0_1 a0_2 a0_3 = some r) ∧ Aside0 (kq ≤ k) ∧ Aside0 (wc.heap[gb171]? = some (.cells #[.int .i64 a0_0, .int .i64 a0_1, .int .i64 a0_2, .int .i64 a0_3] 34 (0, 0))) ∧ Aside0 (Below w.heap.size w wc))
  case first =>
   have H := HC13.out
   clear HC13
   by_cases c16 : a0_0 = 3
   ·rw [if_pos c16] at H
    have c16b0 : (a0_0 == 3) = true := beq_iff_eq.mpr c16
    have c16b1 : (a0_0 != 3) = false := bne_eq_false_iff_eq.mpr c16
    clear c16
    (first | rw [c16b0] | (simp only [i64_w, i32_w]; rw [c16b0]) | skip)
    have H' := Aside0.mk H
    clear H
    go_wp2
    go_meet
    case rel => exact ⟨_, ((a0_0 == 3)), (by first | rfl | (simp; done) | (simp [*]; done)), H', ⟨by first | omega | exact Nat.le_refl _⟩, ⟨bl BK171.out⟩, ⟨bw HB.out⟩⟩
   ·rw [if_neg c16] at H
    have c16b0 : (a0_0 == 3) = false := beq_eq_false_iff_ne.mpr c16
    have c16b1 : (a0_0 != 3) = true := bne_iff_ne.mpr c16
    (first | rw [c16b0] | (simp only [i64_w, i32_w]; rw [c16b0]) | skip)
    have H' := Aside0.mk H
    clear H
    go_wp2
    go_meet
    case rel => exact ⟨_, ((a0_0 == 6)), (by first | rfl | (simp; done) | (simp [*]; done)), H', ⟨by first | omega | exact Nat.le_refl _⟩, ⟨bl BK171.out⟩, ⟨bw HB.out⟩⟩
  case rest =>
   clear HC13
   try clear c1
   try clear p2
   try clear c3
   try clear c3b0
   try clear c3b1
   try clear c5
   try clear c6
   try clear c6b0
   try clear c6b1
   try clear c7
   try clear c8
   try clear c16
   try clear c16b0
   try clear c16b1
   try clear hcz10_0
   try clear hcz10_1
   try clear hcz10_2
   try clear hcz10_3
   try clear hcz12_0
   try clear hcz12_1
   try clear hcz12_2
   try clear hcz12_3
   try clear hcz15_0
   try clear hcz15_1
   try clear hcz15_2
   try clear hcz15_3
   try clear hcz8_0
   try clear hcz8_1
   try clear hcz8_2
   try clear hcz8_3
   try clear hfz10_0
   try clear hfz10_1
   try clear hfz10_2
   try clear hfz10_3
   try clear hfz12_0
   try clear hfz12_1
   try clear hfz12_2
   try clear hfz12_3
   try clear hfz15_0
   try clear hfz15_1
   try clear hfz15_2
   try clear hfz15_3
   try clear hfz8_0
   try clear hfz8_1
   try clear hfz8_2
   try clear hfz8_3
   obtain ⟨kq, x22_12, rfl, HA, HJ12, BK171, HB⟩ := hcut
   cases kq with
   | zero => exact absurd HA.out (by simp [impl_nodeRight.j0])
   | succ kj12 =>
    have H := HA.out
    clear HA
    simp only [impl_nodeRight.j0] at H
    by_cases c17 : x22_12 = true
    ·subst c17
     have H1 : (if a0_1 = 0 then ((impl_within.f a0_2 0 (wrap64 (a1 - 1))).bind fun t173 => (if t173 = true then (some (a0_3 == 0)) else (some false))) else (some false)) = some r := by rw [if_pos rfl] at H; exact H
     clear H
     have H := H1
     clear H1
     by_cases c18 : a0_1 = 0
     ·rw [if_pos c18] at H
      have c18b0 : (a0_1 == 0) = true := beq_iff_eq.mpr c18
      have c18b1 : (a0_1 != 0) = false := bne_eq_false_iff_eq.mpr c18
      clear c18
      replace H := Option.bind_eq_some_iff.mp H
      obtain ⟨t173, A190, H⟩ := H
      replace H : (if t173 = true then (some (a0_3 == 0)) else (some false)) = some r := H
      have A19 := Aside0.mk A190
      clear A190
      by_cases c20 : t173 = true
      ·subst c20
       have H1 : (some (a0_3 == 0)) = some r := by rw [if_pos rfl] at H; exact H
       clear H
       have H := H1
       clear H1
       obtain rfl := Option.some.inj H
       have hcz21_0 : wc.cell? ⟨gb171, 0, none⟩ = some (.int .i64 a0_0) := (blk_cell BK171.out 0).trans rfl
       have hcz21_1 : wc.cell? ⟨gb171, 1, none⟩ = some (.int .i64 a0_1) := (blk_cell BK171.out 1).trans rfl
       have hcz21_2 : wc.cell? ⟨gb171, 2, none⟩ = some (.int .i64 a0_2) := (blk_cell BK171.out 2).trans rfl
       have hcz21_3 : wc.cell? ⟨gb171, 3, none⟩ = some (.int .i64 a0_3) := (blk_cell BK171.out 3).trans rfl
       have hfz21_0 := blk_frozen BK171.out 0
       have hfz21_1 := blk_frozen BK171.out 1
       have hfz21_2 := blk_frozen BK171.out 2
       have hfz21_3 := blk_frozen BK171.out 3
       go_wp2_with (first | (go_at_call 75; (with_reducible refine (impl_within.calls a0_2 0 (wrap64 (a1 - 1)) true _ A19.out).mono ?_); rintro e w' ⟨rfl, ⟨nd, rfl⟩⟩))
       go_ret
       exact ⟨by first | rfl | (simp [errW_none, errW_some] <;> rfl) | (simp [*, errW_none, errW_some] <;> rfl), bw HB.out⟩
      ·replace c20 := Bool.eq_false_iff.mpr c20
       subst c20
       have H1 : (some false) = some r := by rw [if_neg (show ¬ (false = true) by decide)] at H; exact H
       clear H
       have H := H1
       clear H1
       obtain rfl := Option.some.inj H
       have hcz22_0 : wc.cell? ⟨gb171, 0, none⟩ = some (.int .i64 a0_0) := (blk_cell BK171.out 0).trans rfl
       have hcz22_1 : wc.cell? ⟨gb171, 1, none⟩ = some (.int .i64 a0_1) := (blk_cell BK171.out 1).trans rfl
       have hcz22_2 : wc.cell? ⟨gb171, 2, none⟩ = some (.int .i64 a0_2) := (blk_cell BK171.out 2).trans rfl
       have hcz22_3 : wc.cell? ⟨gb171, 3, none⟩ = some (.int .i64 a0_3) := (blk_cell BK171.out 3).trans rfl
       have hfz22_0 := blk_frozen BK171.out 0
       have hfz22_1 := blk_frozen BK171.out 1
       have hfz22_2 := blk_frozen BK171.out 2
       have hfz22_3 := blk_frozen BK171.out 3
       go_wp2_with (first | (go_at_call 75; (with_reducible refine (impl_within.calls a0_2 0 (wrap64 (a1 - 1)) false _ A19.out).mono ?_); rintro e w' ⟨rfl, ⟨nd, rfl⟩⟩))
       go_ret
       exact ⟨by first | rfl | (simp [errW_none, errW_some] <;> rfl) | (simp [*, errW_none, errW_some] <;> rfl), bw HB.out⟩
     ·rw [if_neg c18] at H
      have c18b0 : (a0_1 == 0) = false := beq_eq_false_iff_ne.mpr c18
      have c18b1 : (a0_1 != 0) = true := bne_iff_ne.mpr c18
      obtain rfl := Option.some.inj H
      have hcz23_0 : wc.cell? ⟨gb171, 0, none⟩ = some (.int .i64 a0_0) := (blk_cell BK171.out 0).trans rfl
      have hcz23_1 : wc.cell? ⟨gb171, 1, none⟩ = some (.int .i64 a0_1) := (blk_cell BK171.out 1).trans rfl
      have hcz23_2 : wc.cell? ⟨gb171, 2, none⟩ = some (.int .i64 a0_2) := (blk_cell BK171.out 2).trans rfl
      have hcz23_3 : wc.cell? ⟨gb171, 3, none⟩ = some (.int .i64 a0_3) := (blk_cell BK171.out 3).trans rfl
      have hfz23_0 := blk_frozen BK171.out 0
      have hfz23_1 := blk_frozen BK171.out 1
      have hfz23_2 := blk_frozen BK171.out 2
      have hfz23_3 := blk_frozen BK171.out 3
      go_wp2
      go_ret
      exact ⟨by first | rfl | (simp [errW_none, errW_some] <;> rfl) | (simp [*, errW_none, errW_some] <;> rfl), bw HB.out⟩
    ·replace c17 := Bool.eq_false_iff.mpr c17
     subst c17
     have H1 : ((impl_within.f a0_0 2 9).bind fun t174 => (if t174 = true then (if a0_1 = 0 then ((impl_within.f a0_2 0 (wrap64 (a1 - 1))).bind fun t175 => (if t175 = true then ((impl_within.f a0_3 0 (wrap64 (a1 - 1))).bind fun t176 => (some t176)) else (some false))) else (some false)) else (some false))) = some r := by rw [if_neg (show ¬ (false = true) by decide)] at H; exact H
     clear H
     have H := H1
     clear H1
     replace H := Option.bind_eq_some_iff.mp H
     obtain ⟨t174, A240, H⟩ := H
     replace H : (if t174 = true then (if a0_1 = 0 then ((impl_within.f a0_2 0 (wrap64 (a1 - 1))).bind fun t175 => (if t175 = true then ((impl_within.f a0_3 0 (wrap64 (a1 - 1))).bind fun t176 => (some t176)) else (some false))) else (some false)) else (some false)) = some r := H
     have A24 := Aside0.mk A240
     clear A240
     by_cases c25 : t174 = true
     ·subst c25
      have H1 : (if a0_1 = 0 then ((impl_within.f a0_2 0 (wrap64 (a1 - 1))).bind fun t175 => (if t175 = true then ((impl_within.f a0_3 0 (wrap64 (a1 - 1))).bind fun t176 => (some t176)) else (some false))) else (some false)) = some r := by rw [if_pos rfl] at H; exact H
      clear H
      have H := H1
      clear H1
      by_cases c26 : a0_1 = 0
      ·rw [if_pos c26] at H
       have c26b0 : (a0_1 == 0) = true := beq_iff_eq.mpr c26
       have c26b1 : (a0_1 != 0) = false := bne_eq_false_iff_eq.mpr c26
       clear c26
       replace H := Option.bind_eq_some_iff.mp H
       obtain ⟨t175, A270, H⟩ := H
       replace H : (if t175 = true then ((impl_within.f a0_3 0 (wrap64 (a1 - 1))).bind fun t176 => (some t176)) else (some false)) = some r := H
       have A27 := Aside0.mk A270
       clear A270
       by_cases c28 : t175 = true
       ·subst c28
        have H1 : ((impl_within.f a0_3 0 (wrap64 (a1 - 1))).bind fun t176 => (some t176)) = some r := by rw [if_pos rfl] at H; exact H
        clear H
        have H := H1
        clear H1
        replace H := Option.bind_eq_some_iff.mp H
        obtain ⟨t176, A290, H⟩ := H
        replace H : (some t176) = some r := H
        have A29 := Aside0.mk A290
        clear A290
        obtain rfl := Option.some.inj H
        have hcz30_0 : wc.cell? ⟨gb171, 0, none⟩ = some (.int .i64 a0_0) := (blk_cell BK171.out 0).trans rfl
        have hcz30_1 : wc.cell? ⟨gb171, 1, none⟩ = some (.int .i64 a0_1) := (blk_cell BK171.out 1).trans rfl
        have hcz30_2 : wc.cell? ⟨gb171, 2, none⟩ = some (.int .i64 a0_2) := (blk_cell BK171.out 2).trans rfl
        have hcz30_3 : wc.cell? ⟨gb171, 3, none⟩ = some (.int .i64 a0_3) := (blk_cell BK171.out 3).trans rfl
        have hfz30_0 := blk_frozen BK171.out 0
        have hfz30_1 := blk_frozen BK171.out 1
        have hfz30_2 := blk_frozen BK171.out 2
        have hfz30_3 := blk_frozen BK171.out 3
        go_wp2_with (first | ((with_reducible refine gate_callee (f := 75) rfl ?_); refine goesL_ (some 42) rfl rfl Try.func75 (by kernel_rfl) rfl #[.int .i64 a0_0, .int .i64 2, .int .i64 9] rfl ar ?_; (with_reducible refine (impl_within.calls a0_0 2 9 true _ A24.out).mono ?_); rintro e w' ⟨rfl, ⟨nd, rfl⟩⟩; refine ⟨_, rfl, ?_⟩) | (go_at_call 75; (with_reducible refine (impl_within.calls a0_2 0 (wrap64 (a1 - 1)) true _ A27.out).mono ?_); rintro e w' ⟨rfl, ⟨nd, rfl⟩⟩) | (go_at_call 75; (with_reducible refine (impl_within.calls a0_3 0 (wrap64 (a1 - 1)) t176 _ A29.out).mono ?_); rintro e w' ⟨rfl, ⟨nd, rfl⟩⟩))
        go_ret
        exact ⟨by first | rfl | (simp [errW_none, errW_some] <;> rfl) | (simp [*, errW_none, errW_some] <;> rfl), bw HB.out⟩
       ·replace c28 := Bool.eq_false_iff.mpr c28
        subst c28
        have H1 : (some false) = some r := by rw [if_neg (show ¬ (false = true) by decide)] at H; exact H
        clear H
        have H := H1
        clear H1
        obtain rfl := Option.some.inj H
        have hcz31_0 : wc.cell? ⟨gb171, 0, none⟩ = some (.int .i64 a0_0) := (blk_cell BK171.out 0).trans rfl
        have hcz31_1 : wc.cell? ⟨gb171, 1, none⟩ = some (.int .i64 a0_1) := (blk_cell BK171.out 1).trans rfl
        have hcz31_2 : wc.cell? ⟨gb171, 2, none⟩ = some (.int .i64 a0_2) := (blk_cell BK171.out 2).trans rfl
        have hcz31_3 : wc.cell? ⟨gb171, 3, none⟩ = some (.int .i64 a0_3) := (blk_cell BK171.out 3).trans rfl
        have hfz31_0 := blk_frozen BK171.out 0
        have hfz31_1 := blk_frozen BK171.out 1
        have hfz31_2 := blk_frozen BK171.out 2
        have hfz31_3 := blk_frozen BK171.out 3
        go_wp2_with (first | ((with_reducible refine gate_callee (f := 75) rfl ?_); refine goesL_ (some 42) rfl rfl Try.func75 (by kernel_rfl) rfl #[.int .i64 a0_0, .int .i64 2, .int .i64 9] rfl ar ?_; (with_reducible refine (impl_within.calls a0_0 2 9 true _ A24.out).mono ?_); rintro e w' ⟨rfl, ⟨nd, rfl⟩⟩; refine ⟨_, rfl, ?_⟩) | (go_at_call 75; (with_reducible refine (impl_within.calls a0_2 0 (wrap64 (a1 - 1)) false _ A27.out).mono ?_); rintro e w' ⟨rfl, ⟨nd, rfl⟩⟩))
        go_ret
        exact ⟨by first | rfl | (simp [errW_none, errW_some] <;> rfl) | (simp [*, errW_none, errW_some] <;> rfl), bw HB.out⟩
      ·rw [if_neg c26] at H
       have c26b0 : (a0_1 == 0) = false := beq_eq_false_iff_ne.mpr c26
       have c26b1 : (a0_1 != 0) = true := bne_iff_ne.mpr c26
       obtain rfl := Option.some.inj H
       have hcz32_0 : wc.cell? ⟨gb171, 0, none⟩ = some (.int .i64 a0_0) := (blk_cell BK171.out 0).trans rfl
       have hcz32_1 : wc.cell? ⟨gb171, 1, none⟩ = some (.int .i64 a0_1) := (blk_cell BK171.out 1).trans rfl
       have hcz32_2 : wc.cell? ⟨gb171, 2, none⟩ = some (.int .i64 a0_2) := (blk_cell BK171.out 2).trans rfl
       have hcz32_3 : wc.cell? ⟨gb171, 3, none⟩ = some (.int .i64 a0_3) := (blk_cell BK171.out 3).trans rfl
       have hfz32_0 := blk_frozen BK171.out 0
       have hfz32_1 := blk_frozen BK171.out 1
       have hfz32_2 := blk_frozen BK171.out 2
       have hfz32_3 := blk_frozen BK171.out 3
       go_wp2_with (first | ((with_reducible refine gate_callee (f := 75) rfl ?_); refine goesL_ (some 42) rfl rfl Try.func75 (by kernel_rfl) rfl #[.int .i64 a0_0, .int .i64 2, .int .i64 9] rfl ar ?_; (with_reducible refine (impl_within.calls a0_0 2 9 true _ A24.out).mono ?_); rintro e w' ⟨rfl, ⟨nd, rfl⟩⟩; refine ⟨_, rfl, ?_⟩))
       go_ret
       exact ⟨by first | rfl | (simp [errW_none, errW_some] <;> rfl) | (simp [*, errW_none, errW_some] <;> rfl), bw HB.out⟩
     ·replace c25 := Bool.eq_false_iff.mpr c25
      subst c25
      have H1 : (some false) = some r := by rw [if_neg (show ¬ (false = true) by decide)] at H; exact H
      clear H
      have H := H1
      clear H1
      obtain rfl := Option.some.inj H
      have hcz33_0 : wc.cell? ⟨gb171, 0, none⟩ = some (.int .i64 a0_0) := (blk_cell BK171.out 0).trans rfl
      have hcz33_1 : wc.cell? ⟨gb171, 1, none⟩ = some (.int .i64 a0_1) := (blk_cell BK171.out 1).trans rfl
      have hcz33_2 : wc.cell? ⟨gb171, 2, none⟩ = some (.int .i64 a0_2) := (blk_cell BK171.out 2).trans rfl
      have hcz33_3 : wc.cell? ⟨gb171, 3, none⟩ = some (.int .i64 a0_3) := (blk_cell BK171.out 3).trans rfl
      have hfz33_0 := blk_frozen BK171.out 0
      have hfz33_1 := blk_frozen BK171.out 1
      have hfz33_2 := blk_frozen BK171.out 2
      have hfz33_3 := blk_frozen BK171.out 3
      go_wp2_with (first | ((with_reducible refine gate_callee (f := 75) rfl ?_); refine goesL_ (some 42) rfl rfl Try.func75 (by kernel_rfl) rfl #[.int .i64 a0_0, .int .i64 2, .int .i64 9] rfl ar ?_; (with_reducible refine (impl_within.calls a0_0 2 9 false _ A24.out).mono ?_); rintro e w' ⟨rfl, ⟨nd, rfl⟩⟩; refine ⟨_, rfl, ?_⟩))
      go_ret
      exact ⟨by first | rfl | (simp [errW_none, errW_some] <;> rfl) | (simp [*, errW_none, errW_some] <;> rfl), bw HB.out⟩

/-! ### impl_ArenaOk: OWN: function 27 -/
namespace Hand
open Go.WideMaps Go.Proofs.Ytkckdibalopagaa.Base
theorem impl_within_b (a b c : Int) : impl_within.f a b c = some (decide (b ≤ a) && decide (a ≤ c)) := by
 unfold impl_within.f
 by_cases h : a ≥ b
 ·rw [if_pos h]; simp [h]
 ·rw [if_neg h]
  have : ¬ b ≤ a := h
  simp [this]
theorem impl_nodeRight_j0 (f0 f1 f2 f3 k : Int) (hk : 0 ≤ k ∧ k ≤ 9223372036854775807) (c : Bool) : Ev (fun n => impl_nodeRight.j0 n k c f0 f1 f2 f3)
  (if c = true then decide (f1 = 0) && (decide (0 ≤ f2) && decide (f2 ≤ k - 1)) && decide (f3 = 0) else (decide (2 ≤ f0) && decide (f0 ≤ 9)) && decide (f1 = 0) && (decide (0 ≤ f2) && decide (f2 ≤ k - 1)) && (decide (0 ≤ f3) && decide (f3 ≤ k - 1))) := by
 have e : wrap64 (k - 1) = k - 1 := w64 (by omega) (by omega)
 refine ev_end (fun n => ?_)
 rw [impl_nodeRight.j0, e]
 simp only [impl_within_b, Option.bind_some, beq_dec]
 cases c with
 | true =>
  rw [if_pos rfl, if_pos rfl]
  by_cases h1 : f1 = 0
  ·rw [if_pos h1]
   by_cases h2 : (decide (0 ≤ f2) && decide (f2 ≤ k - 1)) = true
   ·rw [if_pos h2, h2]; simp [h1]
   ·rw [if_neg h2]; simp only [Bool.not_eq_true] at h2; rw [h2]; simp
  ·rw [if_neg h1]; simp [h1]
 | false =>
  rw [if_neg (show ¬ (false = true) by simp), if_neg (show ¬ (false = true) by simp)]
  by_cases h0 : (decide (2 ≤ f0) && decide (f0 ≤ 9)) = true
  ·rw [if_pos h0, h0]
   by_cases h1 : f1 = 0
   ·rw [if_pos h1]
    by_cases h2 : (decide (0 ≤ f2) && decide (f2 ≤ k - 1)) = true
    ·rw [if_pos h2, h2]; simp [h1]
    ·rw [if_neg h2]; simp only [Bool.not_eq_true] at h2; rw [h2]; simp
   ·rw [if_neg h1]; simp [h1]
  ·rw [if_neg h0]; simp only [Bool.not_eq_true] at h0; rw [h0]; simp
theorem impl_nodeRight_f (f0 f1 f2 f3 k : Int) (hk : 0 ≤ k ∧ k ≤ 9223372036854775807) : Ev (fun n => impl_nodeRight.f n f0 f1 f2 f3 k) (nodeB f0 f1 f2 f3 k) := by
 unfold nodeB
 by_cases h1 : f0 = 1
 ·refine ev_cast (evT h1 ?_) (if_pos h1).symm
  refine ev_some ?_
  simp only [impl_within_b, Option.bind_some, beq_dec]
  by_cases h2 : (decide (0 ≤ f1) && decide (f1 ≤ 999999)) = true
  ·rw [if_pos h2, h2]
   by_cases h3 : f2 = 0
   ·rw [if_pos h3]; simp [h3]
   ·rw [if_neg h3]; simp [h3]
  ·rw [if_neg h2]; simp only [Bool.not_eq_true] at h2; rw [h2]; simp
 ·refine ev_cast (evF h1 ?_) (if_neg h1).symm
  by_cases h3 : f0 = 3
  ·refine evT h3 (ev_cast (impl_nodeRight_j0 f0 f1 f2 f3 k hk (f0 == 3)) ?_)
   rw [if_pos (by simp [h3]), if_pos (Or.inl h3)]
  ·refine evF h3 (ev_cast (impl_nodeRight_j0 f0 f1 f2 f3 k hk (f0 == 6)) ?_)
   by_cases h6 : f0 = 6
   ·rw [if_pos (by simp [h6]), if_pos (Or.inr h6)]
   ·rw [if_neg (by simp [h6]), if_neg (by simp [h3, h6])]

theorem lawK : KeyLaw Try.prog 34 := deep_law_laid (m := 3) (by kernel_rfl) (by omega) (of_decide_eq_true (by kernel_rfl)) (by kernel_rfl) (by rw [Try.underlying34])
theorem keyOf_node (a b c d : Int) (ha : (Lit.int .i64 a).wf = true) (hb : (Lit.int .i64 b).wf = true) (hc : (Lit.int .i64 c).wf = true) (hd : (Lit.int .i64 d).wf = true) : keyOf Try.prog 34 (.agg #[.int .i64 a, .int .i64 b, .int .i64 c, .int .i64 d]) = some (.string (keyBytes [.int .i64 a, .int .i64 b, .int .i64 c, .int .i64 d])) := by
 have hk : Try.prog.keyType 34 = true := by kernel_rfl
 have hcN : Try.prog.cellsOf 34 = 4 := by kernel_rfl
 have hcI : Try.prog.cellsOf 3 = 1 := by kernel_rfl
 obtain ⟨m, hm⟩ : ∃ m, Try.prog.types.size = m + 1 := ⟨Try.prog.types.size - 1, by have : 0 < Try.prog.types.size := of_decide_eq_true (by kernel_rfl); omega⟩
 unfold keyOf
 simp only [Try.underlying34]
 rw [if_pos (by simp [hk, Value.formed, Try.underlying34, hcN]), hm]
 unfold Program.keyLits
 simp only [Try.underlying34, Value.cells]
 rw [if_pos (by rw [hcN]; exact ⟨rfl, by simp⟩)]
 simp [hcI, Program.keyLits, Try.underlying3, ha, hb, hc, hd]
theorem zeroI (u : World) : (zeroValue 3).run Try.prog u = .ok (.int .i64 0) u := by kernel_rfl
def nv (x : S34) : Value := .agg #[.int .i64 x.f0, .int .i64 x.f1, .int .i64 x.f2, .int .i64 x.f3]
theorem nv_inj {x y : S34} (h : nv x = nv y) : x = y := by
 cases x
 cases y
 simp [nv] at h
 simp [h]
theorem sameN_iff {x y : S34} : sameN x y = true ↔ x = y := by
 cases x
 cases y
 simp [sameN, and_assoc]
theorem dup_iff (l : List S34) (j : Nat) : nv (nodeOf l j) ∈ (l.take j).map nv ↔ dupAt l j = true := by
 unfold dupAt
 rw [List.any_eq_true]
 constructor
 ·intro h
  obtain ⟨y, hy, he⟩ := List.mem_map.1 h
  exact ⟨y, hy, sameN_iff.2 (nv_inj he)⟩
 ·rintro ⟨y, hy, he⟩
  exact List.mem_map.2 ⟨y, hy, by rw [sameN_iff.1 he]⟩
theorem wf1_parts {x : S34} (h : wf1 x = true) : (Lit.int .i64 x.f0).wf = true ∧ (Lit.int .i64 x.f1).wf = true ∧ (Lit.int .i64 x.f2).wf = true ∧ (Lit.int .i64 x.f3).wf = true := by
 unfold wf1 at h
 simp only [Bool.and_eq_true] at h
 exact ⟨h.1.1.1, h.1.1.2, h.1.2, h.2⟩
end Hand
open Hand in
def impl_ArenaOk.f (l0_0 : List (S34)) : Option (Bool) := if l0_0.all wf1 = true then some (aok l0_0) else none
open Go.WideMaps Go.Proofs.Ytkckdibalopagaa.Base Hand in
set_option maxHeartbeats 8000000 in
set_option maxRecDepth 100000 in
theorem impl_ArenaOk.calls (A0_0 : Option Addr) (c0_0 : Nat) (l0_0 : List (S34)) (r : Bool) (w : World) (hr0_0 : Kd.C k34 w A0_0 l0_0.length l0_0) (hc0_0 : l0_0.length ≤ c0_0) (h : impl_ArenaOk.f l0_0 = some r) :
  Calls Try.prog 27 #[.agg #[.slice A0_0 l0_0.length c0_0]] w fun e w' => e = .returned (.bool r) ∧ Below w.heap.size w w' := by
 have hu26 := Try.underlying26
 have hmm := @run_makeMap Try.prog
 unfold impl_ArenaOk.f at h
 by_cases hwf : l0_0.all wf1 = true
 ·rw [if_pos hwf] at h
  obtain rfl := Option.some.inj h
  have HR := Aside0.mk hr0_0
  have HW := Aside0.mk hwf
  clear hr0_0 h hwf
  by_cases hlen : l0_0.length ≤ 3000
  ·have hd : decide (3000 < l0_0.length) = false := decide_eq_false (by omega)
   have HL := Aside0.mk hlen
   go_enter Try.func27, Try.ntmps27
   go_wp2
   go_loopw [14] (fun v wr => ∃ i : Int, 0 ≤ i ∧ i ≤ l0_0.length ∧ v = .int .i64 i ∧ Aside0 (Once Try.prog 34 wr (w.heap.size + 1) ((l0_0.take i.toNat).map nv)) ∧ Aside0 (∀ j, j < i.toNat → rightAt l0_0 j = true ∧ dupAt l0_0 j = false) ∧ Aside0 (Below w.heap.size w wr)) (fun i _ => l0_0.length - (intOf i).toNat)
   case atStart => exact ⟨0, by omega, by omega, rfl, ⟨by have := Once.made Try.prog 34 (w.alloc (.cells #[.slice A0_0 l0_0.length c0_0] 26)); simpa using this⟩, ⟨fun j hj => by simp at hj⟩, ⟨by repeat (first | exact Below.refl _ _ | apply below_alloc)⟩⟩
   case round =>
    clear hlen
    obtain ⟨i, h0, h1, rfl, HO, HA, HB⟩ := hrel
    have Hi := Aside0.mk h0
    have Hj := Aside0.mk h1
    by_cases hlt : i < l0_0.length
    ·obtain ⟨ad, e1, x0, x1, x2, x3⟩ := at_T34 HR.out i h0 hlt
     cases e1
     have Hlt := Aside0.mk hlt
     obtain ⟨nd, hnd⟩ : ∃ nd, rd_T34 l0_0 i = nd := ⟨_, rfl⟩
     rw [hnd] at x0 x1 x2 x3
     have enode : nodeOf l0_0 i.toNat = nd := by unfold nodeOf; rw [Int.toNat_of_nonneg h0]; exact hnd
     have hmem : nd ∈ l0_0 := by
      rw [← hnd]
      unfold rd_T34
      rw [List.getD_eq_getElem?_getD, List.getElem?_eq_getElem (by omega)]
      exact List.getElem_mem _
     obtain ⟨w0, w1, w2, w3⟩ := wf1_parts (List.all_eq_true.1 HW.out nd hmem)
     obtain ⟨K, hK⟩ := impl_nodeRight_f nd.f0 nd.f1 nd.f2 nd.f3 i (by have := HL.out; omega)
     have hK := hK K (Nat.le_refl _)
     have eright : rightAt l0_0 i.toNat = nodeB nd.f0 nd.f1 nd.f2 nd.f3 i := by unfold rightAt; rw [enode, Int.toNat_of_nonneg h0]
     obtain ⟨b, hb⟩ : ∃ b, nodeB nd.f0 nd.f1 nd.f2 nd.f3 i = b := ⟨_, rfl⟩
     rw [hb] at hK eright
     have HK := Aside0.mk hK
     have ER := Aside0.mk eright
     have EN := Aside0.mk enode
     replace x0 := (HB.out.cell (World.block_lt_of_cell? w _ x0)).trans x0
     replace x1 := (HB.out.cell (World.block_lt_of_cell? w _ x1)).trans x1
     replace x2 := (HB.out.cell (World.block_lt_of_cell? w _ x2)).trans x2
     replace x3 := (HB.out.cell (World.block_lt_of_cell? w _ x3)).trans x3
     have p0 : (0 ≤ i) = True := eq_true h0
     have p1 : (i < (l0_0.length : Int)) = True := eq_true hlt
     have p2 : decide (i < (l0_0.length : Int)) = true := decide_eq_true hlt
     clear h0 h1 hlt hnd enode hmem hK eright hb
     by_cases hin : nv nd ∈ (l0_0.take i.toNat).map nv
     ·go_wp2
      generalize hu : wr.alloc (Obj.cells #[Value.int IntKind.i64 nd.f0, Value.int IntKind.i64 nd.f1, Value.int IntKind.i64 nd.f2, Value.int IntKind.i64 nd.f3] 34) = u
      have HO2 : Once Try.prog 34 u.drew (w.heap.size + 1) ((l0_0.take i.toNat).map nv) := HO.out.move (by rw [← hu]; exact _root_.Go.heap_alloc_old wr _ HO.out.lt)
      have hBlt := HO.out.lt
      obtain ⟨st, u2, u3, f1, f2, f3, f4, hg, hl⟩ := once_present lawK Try.underlying90 HO2 (keyOf_node nd.f0 nd.f1 nd.f2 nd.f3 w0 w1 w2 w3) hin
      have n0 : u.cell? ⟨wr.heap.size, 0, none⟩ = some (.int .i64 nd.f0) := by rw [← hu]; simp
      have n1 : u.cell? ⟨wr.heap.size, 1, none⟩ = some (.int .i64 nd.f1) := by rw [← hu]; simp
      have n2 : u.cell? ⟨wr.heap.size, 2, none⟩ = some (.int .i64 nd.f2) := by rw [← hu]; simp
      have n3 : u.cell? ⟨wr.heap.size, 3, none⟩ = some (.int .i64 nd.f3) := by rw [← hu]; simp
      have hne : some wr.heap.size ≠ some (w.heap.size + 1) := by intro e; injection e with e; omega
      have m0 : u3.cell? ⟨wr.heap.size, 0, none⟩ = some (.int .i64 nd.f0) := cell_grown (W := u.drew) hg n0 hne
      have m1 : u3.cell? ⟨wr.heap.size, 1, none⟩ = some (.int .i64 nd.f1) := cell_grown (W := u.drew) hg n1 hne
      have m2 : u3.cell? ⟨wr.heap.size, 2, none⟩ = some (.int .i64 nd.f2) := cell_grown (W := u.drew) hg n2 hne
      have m3 : u3.cell? ⟨wr.heap.size, 3, none⟩ = some (.int .i64 nd.f3) := cell_grown (W := u.drew) hg n3 hne
      have hB3 : w.heap.size + 1 < u3.heap.size := Nat.lt_of_lt_of_le HO2.lt hg.size
      have HB3 := Aside0.mk hB3
      have Hg := Aside0.mk hg
      have Hl := Aside0.mk hl
      have Hu := Aside0.mk hu
      have Hin := Aside0.mk hin
      have Hne := Aside0.mk hne
      have HBlt := Aside0.mk hBlt
      clear hg hl hu hin HO2 hne hBlt hB3
      have hz := aok_false (l := l0_0) (j := i.toNat) (by have := Hi.out; have := Hlt.out; omega) (.inr ((dup_iff l0_0 i.toNat).1 (by rw [EN.out]; exact Hin.out)))
      have HZ := Aside0.mk hz
      clear hz
      go_region
      cases b with
      | true =>
       go_wp2_with (go_at_call 84; refine (impl_nodeRight.calls K nd.f0 nd.f1 nd.f2 nd.f3 i true _ HK.out).mono ?_; rintro e w5 ⟨rfl, hb5⟩; have f5 := Hl.out w5 (hb5.block _ HB3.out); have k0 := (hb5.cell (World.block_lt_of_cell? u3 _ m0)).trans m0; have k1 := (hb5.cell (World.block_lt_of_cell? u3 _ m1)).trans m1; have k2 := (hb5.cell (World.block_lt_of_cell? u3 _ m2)).trans m2; have k3 := (hb5.cell (World.block_lt_of_cell? u3 _ m3)).trans m3; have H5 := Aside0.mk hb5; clear hb5)
       go_ret
       refine ⟨?_, ?_⟩
       ·have hz := HZ.out
        rw [hz]; rfl
       ·have hu1 : Below w.heap.size w u := by rw [← Hu.out]; exact below_alloc HB.out _
        have hu2 : Below w.heap.size w u3 := hu1.drew.grown Hg.out (hu1.drew.size) (fun b hb => by injection hb with hb; omega)
        exact hu2.trans (H5.out.mono hu2.size)
      | false =>
       go_wp2_with (go_at_call 84; refine (impl_nodeRight.calls K nd.f0 nd.f1 nd.f2 nd.f3 i false _ HK.out).mono ?_; rintro e w5 ⟨rfl, hb5⟩; have H5 := Aside0.mk hb5; clear hb5)
       go_ret
       refine ⟨?_, ?_⟩
       ·have hz := HZ.out
        rw [hz]; rfl
       ·have hu1 : Below w.heap.size w u := by rw [← Hu.out]; exact below_alloc HB.out _
        have hu2 : Below w.heap.size w u3 := hu1.drew.grown Hg.out (hu1.drew.size) (fun b hb => by injection hb with hb; omega)
        exact hu2.trans (H5.out.mono hu2.size)
     ·go_wp2
      generalize hu : wr.alloc (Obj.cells #[Value.int IntKind.i64 nd.f0, Value.int IntKind.i64 nd.f1, Value.int IntKind.i64 nd.f2, Value.int IntKind.i64 nd.f3] 34) = u
      have HO2 : Once Try.prog 34 u.drew (w.heap.size + 1) ((l0_0.take i.toNat).map nv) := HO.out.move (by rw [← hu]; exact _root_.Go.heap_alloc_old wr _ HO.out.lt)
      have hBlt := HO.out.lt
      obtain ⟨st, u2, u3, f1, f2, f3, f4, HO3, hg, hl⟩ := once_absent lawK Try.underlying90 zeroI HO2 (keyOf_node nd.f0 nd.f1 nd.f2 nd.f3 w0 w1 w2 w3) hin
      have n0 : u.cell? ⟨wr.heap.size, 0, none⟩ = some (.int .i64 nd.f0) := by rw [← hu]; simp
      have n1 : u.cell? ⟨wr.heap.size, 1, none⟩ = some (.int .i64 nd.f1) := by rw [← hu]; simp
      have n2 : u.cell? ⟨wr.heap.size, 2, none⟩ = some (.int .i64 nd.f2) := by rw [← hu]; simp
      have n3 : u.cell? ⟨wr.heap.size, 3, none⟩ = some (.int .i64 nd.f3) := by rw [← hu]; simp
      have hne : some wr.heap.size ≠ some (w.heap.size + 1) := by intro e; injection e with e; omega
      have m0 : u3.cell? ⟨wr.heap.size, 0, none⟩ = some (.int .i64 nd.f0) := cell_grown (W := u.drew) hg n0 hne
      have m1 : u3.cell? ⟨wr.heap.size, 1, none⟩ = some (.int .i64 nd.f1) := cell_grown (W := u.drew) hg n1 hne
      have m2 : u3.cell? ⟨wr.heap.size, 2, none⟩ = some (.int .i64 nd.f2) := cell_grown (W := u.drew) hg n2 hne
      have m3 : u3.cell? ⟨wr.heap.size, 3, none⟩ = some (.int .i64 nd.f3) := cell_grown (W := u.drew) hg n3 hne
      have H3 := Aside0.mk HO3
      have Hg := Aside0.mk hg
      have Hl := Aside0.mk hl
      have Hu := Aside0.mk hu
      have Hin := Aside0.mk hin
      have Hne := Aside0.mk hne
      have HBlt := Aside0.mk hBlt
      clear HO3 hg hl hu hin HO2 hne hBlt
      go_region
      cases b with
      | true =>
       go_wp2_with (go_at_call 84; refine (impl_nodeRight.calls K nd.f0 nd.f1 nd.f2 nd.f3 i true _ HK.out).mono ?_; rintro e w5 ⟨rfl, hb5⟩; have f5 := Hl.out w5 (hb5.block _ H3.out.lt); have k0 := (hb5.cell (World.block_lt_of_cell? u3 _ m0)).trans m0; have k1 := (hb5.cell (World.block_lt_of_cell? u3 _ m1)).trans m1; have k2 := (hb5.cell (World.block_lt_of_cell? u3 _ m2)).trans m2; have k3 := (hb5.cell (World.block_lt_of_cell? u3 _ m3)).trans m3; have H5 := Aside0.mk hb5; clear hb5)
       go_roundw
       case rel =>
        have hl3 := HL.out
        have hii := Hi.out
        have hij := Hlt.out
        have ei : (i + 1).toNat = i.toNat + 1 := by omega
        have etake : (l0_0.take (i + 1).toNat).map nv = (l0_0.take i.toNat).map nv ++ [nv nd] := by
         rw [ei, List.take_succ_eq_append_getElem (by omega), List.map_append, List.map_singleton]
         congr 2
         rw [← EN.out]
         unfold nodeOf
         rw [rdI (by omega)]
        refine ⟨i + 1, by omega, by omega, by first | rfl | (simp only [Value.int.injEq, true_and]; exact w64 (by omega) (by omega)), ⟨by rw [etake]; exact H3.out.move (H5.out.block _ H3.out.lt)⟩, ⟨fun j hj => ?_⟩, ⟨?_⟩⟩
        ·by_cases hji : j = i.toNat
         ·rw [hji]
          refine ⟨ER.out, ?_⟩
          have := mt (dup_iff l0_0 i.toNat).2 (by rw [EN.out]; exact Hin.out)
          simpa using this
         ·exact HA.out j (by omega)
        ·have hu1 : Below w.heap.size w u := by rw [← Hu.out]; exact below_alloc HB.out _
         have hu2 : Below w.heap.size w u3 := hu1.drew.grown Hg.out (hu1.drew.size) (fun b hb => by injection hb with hb; omega)
         exact hu2.trans (H5.out.mono hu2.size)
       case measure => have hii := Hi.out; have hij := Hlt.out; have hl3 := HL.out; have hw := w64 (x := i + 1) (by omega) (by omega); simp only [intOf]; simp; rw [hw]; omega
      | false =>
       go_wp2_with (go_at_call 84; refine (impl_nodeRight.calls K nd.f0 nd.f1 nd.f2 nd.f3 i false _ HK.out).mono ?_; rintro e w5 ⟨rfl, hb5⟩; have H5 := Aside0.mk hb5; clear hb5)
       go_ret
       refine ⟨?_, ?_⟩
       ·have hz := aok_false (l := l0_0) (j := i.toNat) (by have := Hi.out; have := Hlt.out; omega) (.inl ER.out)
        rw [hz]; rfl
       ·have hu1 : Below w.heap.size w u := by rw [← Hu.out]; exact below_alloc HB.out _
        have hu2 : Below w.heap.size w u3 := hu1.drew.grown Hg.out (hu1.drew.size) (fun b hb => by injection hb with hb; omega)
        exact hu2.trans (H5.out.mono hu2.size)
    ·obtain rfl : i = (l0_0.length : Int) := by omega
     have hz := aok_true (l := l0_0) HL.out (fun j hj => HA.out j (by omega))
     have HZ := Aside0.mk hz
     clear hz h0 h1 hlt
     go_wp2
     go_ret
     refine ⟨?_, HB.out⟩
     have hz := HZ.out
     rw [hz]; rfl
  ·have hd : decide (3000 < l0_0.length) = true := decide_eq_true (by omega)
   have hz := aok_big hlen
   have HZ := Aside0.mk hz
   clear hz
   go_enter Try.func27, Try.ntmps27
   go_wp2
   go_ret
   refine ⟨?_, by repeat (first | exact Below.refl _ _ | apply below_alloc)⟩
   have hz := HZ.out
   rw [hz]; rfl
 ·rw [if_neg hwf] at h
  cases h

/-! ### impl_hasNode: function 71 -/
def impl_hasNode.f (l0_0 : List (S34)) (a1 : Int) : Option (Bool) := (impl_within.f a1 0 (wrap64 ((l0_0.length : Int) - 1))).bind fun t179 => (some t179)
set_option maxHeartbeats 8000000 in
set_option maxRecDepth 100000 in
theorem impl_hasNode.calls (A0_0 : Option Addr) (c0_0 : Nat) (l0_0 : List (S34)) (a1 : Int) (r : Bool) (w : World) (hr0_0 : Kd.C k34 w A0_0 l0_0.length l0_0) (hc0_0 : l0_0.length ≤ c0_0) (h : impl_hasNode.f l0_0 a1 = some r) :
  Calls Try.prog 71 #[.agg #[.slice A0_0 l0_0.length c0_0], .int .i64 a1] w fun e w' => e = .returned (.bool r) ∧ Below w.heap.size w w' := by
 have hu26 := Try.underlying26
 have HR0_0 := Aside0.mk hr0_0
 have HC0_0 := Aside0.mk hc0_0
 clear hr0_0 hc0_0
 have HB := Aside0.mk (Below.refl w.heap.size w)
 have H : ((impl_within.f a1 0 (wrap64 ((l0_0.length : Int) - 1))).bind fun t179 => (some t179)) = some r := h
 clear h
 replace H := Option.bind_eq_some_iff.mp H
 obtain ⟨t179, A30, H⟩ := H
 replace H : (some t179) = some r := H
 have A3 := Aside0.mk A30
 clear A30
 obtain rfl := Option.some.inj H
 go_enter Try.func71, Try.ntmps71
 go_wp2_with (first | ((with_reducible refine gate_dst (N := 2) rfl ?_); refine box_event ?hg (N := 2) ?hd (cs := #[.slice A0_0 l0_0.length c0_0]) (t := 26) ?hr ?_; (case hd => rfl); (case hg => rfl); (case hr => first | (go_simp; done) | (go_simp; rfl)); intro gb178 hg w4 hbox hb; have n0_ := Aside0.mk (below_step (bw HB.out) hb); have n1_ := Aside0.mk (hbox); have n2_ := Aside0.mk ((by rw [hg]; exact (below_size (bw HB.out)) : w.heap.size ≤ gb178)); have n3_ := Aside0.mk ((by rw [hg]; exact (below_size (bw HB.out)) : w.heap.size ≤ gb178)); clear HB; have HB := n0_; have BK178 := n1_; have GW178 := n2_; have GE178 := n3_; clear n0_ n1_ n2_ n3_ hb hbox hg; have hcz5_0 : w4.cell? ⟨gb178, 0, none⟩ = some (.slice A0_0 l0_0.length c0_0) := (blk_cell BK178.out 0).trans rfl; have hfz5_0 := blk_frozen BK178.out 0) | ((with_reducible refine gate_callee (f := 75) rfl ?_); refine goesL_ (some 10) rfl rfl Try.func75 (by kernel_rfl) rfl #[.int .i64 a1, .int .i64 0, .int .i64 (wrap64 ((l0_0.length : Int) - 1))] rfl ar ?_; (with_reducible refine (impl_within.calls a1 0 (wrap64 ((l0_0.length : Int) - 1)) t179 _ A3.out).mono ?_); rintro e w' ⟨rfl, ⟨nd, rfl⟩⟩; refine ⟨_, rfl, ?_⟩))
 go_ret
 exact ⟨by first | rfl | (simp [errW_none, errW_some] <;> rfl) | (simp [*, errW_none, errW_some] <;> rfl), bw HB.out⟩

end Go.Proofs.Ytkckdibalopagaa.SFnReaches
