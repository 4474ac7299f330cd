/- FnExactPartsOf -/
import Derived.Test.YtdhpcchmhikgeaaDoorSFnExactPartsOfx3
import Derived.Test.YtdhpcchmhikgeaaDoorBase
import Derived.Lib.SplitLaws
namespace Go.Proofs.YtdhpcchmhikgeaaDoor.Pure
open Go.RowKit Go.Proofs.YtdhpcchmhikgeaaDoor.SFnExactPartsOf Go.Proofs.YtdhpcchmhikgeaaDoor.Base Go.Proofs.YtdhpcchmhikgeaaDoorW.PrintWords Go.Proofs.YtdhpcchmhikgeaaDoorW.PrintLast Go.Proofs.YtdhpcchmhikgeaaDoorW.PrintMore
set_option linter.unusedVariables false
set_option linter.unusedSimpArgs false

-- IMPORT: Derived.Lib.SplitLaws
/-! a line's parts -/
theorem size_list (s : ByteArray) : s.data.toList.length = s.size := Array.length_toList
def toBA (l : List UInt8) : ByteArray := ⟨l.toArray⟩
theorem toBA_data (s : ByteArray) : toBA s.data.toList = s := by
  unfold toBA
  rw [Array.toArray_toList]
theorem ba_ext {s t : ByteArray} (h : s.data.toList = t.data.toList) : s = t := by rw [← toBA_data s, ← toBA_data t, h]
theorem extract_list (s : ByteArray) (b i : Nat) : s.extract b i = toBA ((s.data.toList.drop b).take (i - b)) := by
  apply ba_ext
  unfold toBA
  rw [Lib.extract_data]
def splitL : List UInt8 → List (List UInt8)
  | [] => [[]]
  | c :: r => if c = 32 then [] :: splitL r else (match splitL r with
    | [] => [[c]]
    | p :: q => (c :: p) :: q)
theorem splitL_ne (l : List UInt8) : splitL l ≠ [] := by
  cases l with
  | nil => simp [splitL]
  | cons c r =>
    rw [splitL]
    split
    · simp
    · split <;> simp
theorem splitK_eq : ∀ l : List UInt8, Lib.splitK [32] 0 (Lib.count l [32]) l = splitL l := by
  intro l
  induction l with
  | nil => rw [Lib.count_miss (by simp [Lib.index])]; rfl
  | cons c r ih =>
    by_cases h : c = 32
    · subst h
      have hix : Lib.index (32 :: r) [32] = 0 := by rw [Lib.index]; simp [List.isPrefixOf]
      rw [Lib.count_cons_eq, Nat.add_comm, Lib.splitK, hix, splitL, if_pos rfl, ← ih]
      simp
    · have hp : ([32] : List UInt8).isPrefixOf (c :: r) = false := by simp [List.isPrefixOf, Ne.symm h]
      have hix : Lib.index (c :: r) [32] = if Lib.index r [32] == -1 then -1 else Lib.index r [32] + 1 := by rw [Lib.index, hp]; simp
      rw [Lib.count_cons_ne c 32 r h, splitL, if_neg h, ← ih]
      by_cases hm : Lib.index r [32] = -1
      · rw [Lib.count_miss hm]
        rfl
      · have hge := Lib.index_ge r [32]
        obtain ⟨j, hj⟩ : ∃ j : Nat, Lib.index r [32] = j := ⟨(Lib.index r [32]).toNat, by omega⟩
        have hix' : Lib.index (c :: r) [32] = ((j + 1 : Nat) : Int) := by rw [hix, if_neg (fun e => hm (beq_iff_eq.1 e)), hj]; omega
        rw [Lib.count_hit (by simp) hj, Nat.add_comm 1, Lib.splitK, Lib.splitK, hix', hj]
        have n1 : ¬ (((j + 1 : Nat) : Int) == -1) = true := fun e => by have := beq_iff_eq.1 e; omega
        have n2 : ¬ (((j : Nat) : Int) == -1) = true := fun e => by have := beq_iff_eq.1 e; omega
        rw [if_neg n1, if_neg n2]
        simp only [Int.toNat_natCast, Nat.add_zero, List.take_succ_cons, List.length_singleton, List.drop_succ_cons]
def wordsA : List UInt8 → List UInt8 → List (List UInt8)
  | [], cur => if cur = [] then [] else [cur]
  | c :: r, cur => if c = 32 then (if cur = [] then [] else [cur]) ++ wordsA r [] else wordsA r (cur ++ [c])
theorem wordsA_split : ∀ (l cur : List UInt8), wordsA l cur = (match splitL l with
    | [] => []
    | p :: q => (cur ++ p) :: q).filter (fun x => decide (x ≠ [])) := by
  intro l
  induction l with
  | nil => intro cur; simp [wordsA, splitL]; split <;> simp_all
  | cons c r ih =>
    intro cur
    by_cases h : c = 32
    · subst h
      rw [wordsA, if_pos rfl, splitL, if_pos rfl, ih]
      simp only [List.append_nil, List.filter_cons]
      cases hs : splitL r with
      | nil => by_cases hc : cur = [] <;> simp [hc]
      | cons p q => by_cases hc : cur = [] <;> simp [hc]
    · rw [wordsA, if_neg h, splitL, if_neg h, ih]
      cases hs : splitL r with
      | nil => exact absurd hs (splitL_ne r)
      | cons p q => simp
theorem words_all (l : List UInt8) : wordsA l [] = (splitL l).filter (fun x => decide (x ≠ [])) := by
  rw [wordsA_split]
  cases splitL l <;> simp
def goodC (c : UInt8) : Bool := decide (32 ≤ c.toNat ∧ c.toNat ≤ 126)
def finP (ps : List ByteArray) : List ByteArray × Bool := if ps.length > 10 then ([], false) else (ps, true)
def outP : Bool → List ByteArray → List ByteArray × Bool
  | true, ps => finP ps
  | false, _ => ([], false)
def partsR (t : ByteArray) : List ByteArray × Bool := if t.size > 600 then ([], false) else outP (t.data.toList.all goodC) ((wordsA t.data.toList []).map toBA)
theorem list_drop {t : ByteArray} {i : Nat} (hi : i < t.size) : t.data.toList.drop i = (t[i]'hi) :: t.data.toList.drop (i + 1) := by
  have hlt : i < t.data.toList.length := by rw [size_list]; exact hi
  rw [List.drop_eq_getElem_cons hlt]
  rfl
theorem take_next {t : ByteArray} {b i : Nat} (hb : b ≤ i) (hi : i < t.size) : (t.data.toList.drop b).take (i + 1 - b) = (t.data.toList.drop b).take (i - b) ++ [t[i]'hi] := by
  have e : i + 1 - b = (i - b) + 1 := by omega
  rw [e, List.take_succ_eq_append_getElem (by rw [List.length_drop, size_list]; omega)]
  congr 1
  rw [List.getElem_drop]
  have : b + (i - b) = i := by omega
  simp only [this]
  rfl
theorem cur_nil {t : ByteArray} {b i : Nat} (hi : i ≤ t.size) : ((t.data.toList.drop b).take (i - b) = []) ↔ ¬ b < i := by
  rw [← List.length_eq_zero_iff, List.length_take, List.length_drop, size_list]
  omega
theorem spec_Parts_end (t : ByteArray) (acc : List ByteArray) (b : Int) : Ev (fun k => spec_PartsOf.l0 k t acc b ((t.size + 1 : Nat) : Int)) (finP acc) := by
  refine Ev.step (fun k => by rw [spec_PartsOf.l0, if_neg (by omega)]) ?_
  unfold finP
  by_cases h : acc.length > 10
  · rw [if_pos h]; exact evT (by omega) (Ev.now _)
  · rw [if_neg h]; exact evF (by omega) (Ev.now _)
theorem spec_Parts_ev (t : ByteArray) (ht : t.size ≤ 600) : ∀ (d i b : Nat) (acc : List ByteArray), t.size - i = d → i ≤ t.size → b ≤ i → acc.length ≤ i →
    Ev (fun k => spec_PartsOf.l0 k t acc (b : Int) (i : Int)) (outP ((t.data.toList.drop i).all goodC) (acc ++ (wordsA (t.data.toList.drop i) ((t.data.toList.drop b).take (i - b))).map toBA)) := by
  intro d
  induction d with
  | zero =>
    intro i b acc hd hi hb ha
    obtain rfl : i = t.size := by omega
    have hnil : t.data.toList.drop t.size = [] := List.drop_eq_nil_of_le (by rw [size_list]; omega)
    rw [hnil]
    simp only [List.all_nil, outP, wordsA]
    refine Ev.step (fun k => by rw [spec_PartsOf.l0, if_pos (by omega), if_neg (by omega)]) ?_
    refine Ev.step (fun k => by rw [spec_PartsOf.j1, if_neg (by simp), if_neg (by omega)]) ?_
    have e1 : wrap64 ((t.size : Int) + 1) = ((t.size + 1 : Nat) : Int) := by rw [w64 (by omega) (by omega)]; omega
    by_cases h : b < t.size
    · rw [if_neg (fun e => (cur_nil (Nat.le_refl _)).1 e h)]
      refine Ev.step (fun k => by rw [spec_PartsOf.j2, if_neg (by simp), if_pos (by omega), if_pos (by omega), if_pos (by omega), if_pos (by omega), if_pos (by omega), e1]) ?_
      rw [Int.toNat_natCast, Int.toNat_natCast, extract_list]
      exact spec_Parts_end t _ _
    · rw [if_pos ((cur_nil (Nat.le_refl _)).2 h)]
      refine Ev.step (fun k => by rw [spec_PartsOf.j2, if_neg (by simp), if_neg (by omega), e1]) ?_
      simpa using spec_Parts_end t acc _
  | succ d ih =>
    intro i b acc hd hi hb ha
    have hlt : i < t.size := by omega
    have hbt := bt_lt hlt
    rw [list_drop hlt]
    have e1 : wrap64 ((i : Int) + 1) = ((i + 1 : Nat) : Int) := by rw [w64 (by omega) (by omega)]; omega
    simp only [List.all_cons]
    by_cases h1 : bt t (i : Int) < 32
    · have hg : goodC (t[i]'hlt) = false := by unfold goodC; exact decide_eq_false (by omega)
      rw [hg, Bool.false_and]
      refine Ev.step (fun k => by rw [spec_PartsOf.l0, if_pos (by omega), if_pos (by omega), if_pos (by omega), if_pos h1]) ?_
      exact ev_end (fun k => by rw [spec_PartsOf.j1, if_pos rfl]; rfl)
    · by_cases h2 : bt t (i : Int) > 126
      · have hg : goodC (t[i]'hlt) = false := by unfold goodC; exact decide_eq_false (by omega)
        rw [hg, Bool.false_and]
        refine Ev.step (fun k => by rw [spec_PartsOf.l0, if_pos (by omega), if_pos (by omega), if_pos (by omega), if_neg h1, decide_eq_true h2]) ?_
        exact ev_end (fun k => by rw [spec_PartsOf.j1, if_pos rfl]; rfl)
      · have hg : goodC (t[i]'hlt) = true := by unfold goodC; exact decide_eq_true (by omega)
        rw [hg, Bool.true_and]
        refine Ev.step (fun k => by rw [spec_PartsOf.l0, if_pos (by omega), if_pos (by omega), if_pos (by omega), if_neg h1, decide_eq_false h2]) ?_
        refine Ev.step (fun k => by rw [spec_PartsOf.j1, if_neg (by simp), if_pos (by omega), if_pos (by omega)]) ?_
        by_cases h3 : bt t (i : Int) = 32
        · have hc : (t[i]'hlt) = 32 := by
            have h4 : (t[i]'hlt).toNat = 32 := by omega
            exact UInt8.toNat_inj.1 h4
          have hb0 : (bt t (i : Int) != 32) = false := by simp [h3]
          rw [hb0, wordsA, if_pos hc]
          have := ih (i + 1) (i + 1)
          by_cases h : b < i
          · rw [if_neg (fun e => (cur_nil (by omega)).1 e h)]
            refine Ev.step (fun k => by rw [spec_PartsOf.j2, if_neg (by simp), if_pos (by omega), if_pos (by omega), if_pos (by omega), if_pos (by omega), if_pos (by omega), e1]) ?_
            rw [Int.toNat_natCast, Int.toNat_natCast, extract_list]
            refine ev_cast (this (acc ++ [toBA ((t.data.toList.drop b).take (i - b))]) (by omega) (by omega) (Nat.le_refl _) (by simp; omega)) ?_
            simp
          · rw [if_pos ((cur_nil (by omega)).2 h)]
            refine Ev.step (fun k => by rw [spec_PartsOf.j2, if_neg (by simp), if_neg (by omega), e1]) ?_
            refine ev_cast (this acc (by omega) (by omega) (Nat.le_refl _) (by omega)) ?_
            simp
        · have hc : ¬ (t[i]'hlt) = 32 := by
            intro e
            rw [e] at hbt
            exact h3 (by rw [hbt]; rfl)
          have hb1 : (bt t (i : Int) != 32) = true := by simpa using h3
          rw [hb1, wordsA, if_neg hc]
          refine Ev.step (fun k => by rw [spec_PartsOf.j2, if_pos rfl, e1]) ?_
          refine ev_cast (ih (i + 1) b acc (by omega) (by omega) (by omega) (by omega)) ?_
          rw [take_next hb hlt]
theorem spec_PartsOf_f (t : ByteArray) : Ev (fun k => spec_PartsOf.f k t) (partsR t) := by
  unfold partsR
  by_cases h : t.size > 600
  · rw [if_pos h]
    exact ev_now rfl (evT (by omega) (Ev.now _))
  · rw [if_neg h]
    refine ev_now rfl (evF (by omega) ?_)
    have := spec_Parts_ev t (by omega) t.size 0 0 [] (by omega) (by omega) (Nat.le_refl _) (by simp)
    simpa using this
theorem within_f (v : Int) (a b : Int) : impl_within.f v a b = some (decide (a ≤ v ∧ v ≤ b)) := by
  unfold impl_within.f
  by_cases h0 : v ≥ a
  · rw [if_pos h0]
    congr 1
    exact decide_eq_decide.2 ⟨fun h => ⟨h0, h⟩, fun h => h.2⟩
  · rw [if_neg h0]
    congr 1
    exact (decide_eq_false (fun h => h0 h.1)).symm
theorem rdB {l : List ByteArray} {j : Nat} (h : j < l.length) : rdOf ByteArray.empty l (j : Int) = l[j] := by
  unfold rdOf
  simp [h]
theorem empty_iff (s : ByteArray) : s.toList = ([] : List UInt8) ↔ s.data.toList = [] := by rw [Go.Lib.toList_data]
theorem impl_Parts_l1 (ps : List ByteArray) (hp : ps.length ≤ 1000000) : ∀ (d j : Nat) (acc : List ByteArray), ps.length - j = d → j ≤ ps.length → acc.length ≤ j →
    Ev (fun k => impl_PartsOf.l1 k acc ps (ps.length : Int) (j : Int)) (finP (acc ++ (ps.drop j).filter (fun s => decide (s.data.toList ≠ [])))) := by
  intro d
  induction d with
  | zero =>
    intro j acc hd hj ha
    rw [List.drop_eq_nil_of_le (by omega), List.filter_nil, List.append_nil]
    refine Ev.step (fun k => by rw [impl_PartsOf.l1, if_neg (by omega)]) ?_
    unfold finP
    by_cases h : acc.length > 10
    · rw [if_pos h]; exact evT (by omega) (Ev.now _)
    · rw [if_neg h]; exact evF (by omega) (Ev.now _)
  | succ d ih =>
    intro j acc hd hj ha
    have hlt : j < ps.length := by omega
    have e1 : wrap64 ((j : Int) + 1) = ((j + 1 : Nat) : Int) := by rw [w64 (by omega) (by omega)]; omega
    rw [List.drop_eq_getElem_cons hlt, List.filter_cons]
    refine Ev.step (fun k => by rw [impl_PartsOf.l1, if_pos (by omega), if_pos (by omega), if_pos (by omega), rdB hlt, e1]) ?_
    by_cases h : ps[j].data.toList = []
    · refine evT ((empty_iff _).2 h) ?_
      rw [if_neg (by simp [h])]
      exact ih (j + 1) acc (by omega) (by omega) (by omega)
    · refine evF (fun e => h ((empty_iff _).1 e)) (evT (by omega) ?_)
      rw [if_pos (by simpa using h)]
      refine ev_cast (ih (j + 1) (acc ++ [ps[j]]) (by omega) (by omega) (by simp; omega)) ?_
      simp
theorem impl_Parts_ev (t : ByteArray) (ht : t.size ≤ 600) (ps : List ByteArray) (hp : ps.length ≤ 1000000) (hs : strings_Split.f t (⟨#[32]⟩ : ByteArray) = some ps) : ∀ (d i : Nat), t.size - i = d → i ≤ t.size →
    Ev (fun k => impl_PartsOf.l0 k t [] (i : Int)) (outP ((t.data.toList.drop i).all goodC) (ps.filter (fun s => decide (s.data.toList ≠ [])))) := by
  intro d
  induction d with
  | zero =>
    intro i hd hi
    have hnil : t.data.toList.drop i = [] := List.drop_eq_nil_of_le (by rw [size_list]; omega)
    rw [hnil]
    refine Ev.step (fun k => by rw [impl_PartsOf.l0, if_neg (by omega)]) ?_
    refine ev_now hs ?_
    have := impl_Parts_l1 ps hp ps.length 0 [] (by omega) (by omega) (by simp)
    simpa [outP] using this
  | succ d ih =>
    intro i hd hi
    have hlt : i < t.size := by omega
    have hbt := bt_lt hlt
    have hbr := bt_range t (i : Int)
    rw [list_drop hlt]
    have e1 : wrap64 ((i : Int) + 1) = ((i + 1 : Nat) : Int) := by rw [w64 (by omega) (by omega)]; omega
    have ew : wrap64 (bt t (i : Int)) = bt t (i : Int) := w64 (by omega) (by omega)
    simp only [List.all_cons]
    refine Ev.step (fun k => by rw [impl_PartsOf.l0, if_pos (by omega), if_pos (by omega), ew, within_f, e1]) ?_
    refine ev_now rfl ?_
    by_cases h1 : 32 ≤ bt t (i : Int) ∧ bt t (i : Int) ≤ 126
    · have hg : goodC (t[i]'hlt) = true := by unfold goodC; exact decide_eq_true (by omega)
      rw [hg, Bool.true_and]
      exact evT (decide_eq_true h1) (ih (i + 1) (by omega) (by omega))
    · have hg : goodC (t[i]'hlt) = false := by unfold goodC; exact decide_eq_false (by omega)
      rw [hg, Bool.false_and]
      exact evF (by simpa using h1) (Ev.now _)
theorem split_parts (t : ByteArray) : (Lib.splitB (⟨#[32]⟩ : ByteArray) 0 (Lib.countB t (⟨#[32]⟩ : ByteArray)) t).filter (fun s => decide (s.data.toList ≠ [])) = (wordsA t.data.toList []).map toBA := by
  have hd := Lib.splitB_data (⟨#[32]⟩ : ByteArray) 0 (Lib.countB t (⟨#[32]⟩ : ByteArray)) t
  have hk : Lib.splitK [32] 0 (Lib.countB t (⟨#[32]⟩ : ByteArray)) t.data.toList = splitL t.data.toList := splitK_eq t.data.toList
  have hd2 : (Lib.splitB (⟨#[32]⟩ : ByteArray) 0 (Lib.countB t (⟨#[32]⟩ : ByteArray)) t).map (·.data.toList) = splitL t.data.toList := hd.trans hk
  rw [words_all, ← hd2, List.filter_map, List.map_map]
  have : (toBA ∘ fun x : ByteArray => x.data.toList) = id := by
    funext s
    exact toBA_data s
  rw [this, List.map_id]
  rfl
theorem impl_PartsOf_f (t : ByteArray) : Ev (fun k => impl_PartsOf.f k t) (partsR t) := by
  unfold partsR
  by_cases h : t.size > 600
  · rw [if_pos h]
    exact evT (by omega) (Ev.now _)
  · rw [if_neg h]
    refine evF (by omega) ?_
    have hs : strings_Split.f t (⟨#[32]⟩ : ByteArray) = some (Lib.splitB (⟨#[32]⟩ : ByteArray) 0 (Lib.countB t (⟨#[32]⟩ : ByteArray)) t) := by
      unfold strings_Split.f
      rw [if_pos ⟨by omega, by decide⟩]
    have hl := Lib.splitB_all (⟨#[32]⟩ : ByteArray) (by decide) 0 _ t rfl
    have hle := Lib.countB_le (⟨#[32]⟩ : ByteArray) (by decide) t.size t (Nat.le_refl _)
    have := impl_Parts_ev t (by omega) _ (by omega) hs t.size 0 (by omega) (by omega)
    rw [split_parts] at this
    simpa using this
theorem partsR_len (t : ByteArray) : (partsR t).1.length ≤ 10 := by
  unfold partsR
  split
  · simp
  · cases t.data.toList.all goodC with
    | false => simp [outP]
    | true =>
      simp only [outP, finP]
      split
      · simp
      · simp only; omega
/-! the law's marks -/
theorem eqS_ev (l : List ByteArray) (hl : l.length ≤ 1000) : ∀ (d i : Nat), l.length - i = d → i ≤ l.length → Ev (fun k => laws_eqStringS.l0 k l l (i : Int)) true := by
  intro d
  induction d with
  | zero =>
    intro i hd hi
    exact ev_end (fun k => by rw [laws_eqStringS.l0, if_neg (by omega)])
  | succ d ih =>
    intro i hd hi
    refine Ev.step (fun k => by rw [laws_eqStringS.l0, if_pos (by omega), if_pos (by omega), if_pos (by omega), if_pos rfl, w64 (x := (i : Int) + 1) (by omega) (by omega)]) ?_
    exact ih (i + 1) (by omega) (by omega)
theorem eqS_f (l : List ByteArray) (hl : l.length ≤ 1000) : Ev (fun k => laws_eqStringS.f k l l) true := evT rfl (eqS_ev l hl l.length 0 (by omega) (by omega))
theorem mark_ev : ∀ (n : Nat), n ≤ 1000000 → ∀ s : ByteArray, s.size + n ≤ 2000000 → ∃ v, Ev (fun k => laws_markText.l0 k (n : Int) s) v := by
  intro n
  induction n using Nat.strongRecOn with
  | _ n ih =>
    intro hn s hs
    by_cases h : n = 0
    · subst h
      exact ⟨_, Ev.step (fun k => by rw [laws_markText.l0, if_neg (by omega), if_pos (by omega)]) (Ev.now _)⟩
    · have e : wrap64 (Int.tdiv (n : Int) 10) = ((n / 10 : Nat) : Int) := by
        rw [show Int.tdiv (n : Int) 10 = ((n / 10 : Nat) : Int) from rfl, w64 (by omega) (by omega)]
      obtain ⟨v, hv⟩ := ih (n / 10) (by omega) (by omega) ((strOfNums [(wrap64 (48 + (Int.tmod (n : Int) 10))) % 256]) ++ s) (by rw [ByteArray.size_append]; show 1 + s.size + n / 10 ≤ 2000000; omega)
      exact ⟨v, Ev.step (fun k => by rw [laws_markText.l0, if_pos (by omega), Option.bind_some, if_pos (by show 1 + s.size ≤ 9223372036854775807; omega), e]) hv⟩
theorem mark_f (n : Nat) (h0 : 1 ≤ n) (hn : n ≤ 1000000) : ∃ v, Ev (fun k => laws_markText.f k (n : Int)) v := by
  obtain ⟨v, hv⟩ := mark_ev n hn (⟨#[]⟩ : ByteArray) (by show 0 + n ≤ 2000000; omega)
  exact ⟨v, evF (by omega) hv⟩
noncomputable def mt (n : Nat) : ByteArray := if h : 1 ≤ n ∧ n ≤ 1000000 then Classical.choose (mark_f n h.1 h.2) else ByteArray.empty
theorem mt_f {n : Nat} (h0 : 1 ≤ n) (hn : n ≤ 1000000) : Ev (fun k => laws_markText.f k (n : Int)) (mt n) := by
  unfold mt
  rw [dif_pos ⟨h0, hn⟩]
  exact Classical.choose_spec (mark_f n h0 hn)
noncomputable def marks (i : Nat) (l : List ByteArray) : List ByteArray := (List.range i).map (fun j => mt (1 + j)) ++ l.drop i
theorem marks_len {i : Nat} {l : List ByteArray} (h : i ≤ l.length) : (marks i l).length = l.length := by
  unfold marks
  simp
  omega
theorem marks_succ {i : Nat} {l : List ByteArray} (h : i < l.length) : (marks i l).set i (mt (1 + i)) = marks (i + 1) l := by
  unfold marks
  rw [List.range_succ, List.map_append, List.set_append, if_neg (by simp)]
  rw [List.drop_eq_getElem_cons h]
  simp only [List.length_map, List.length_range, Nat.sub_self, List.set_cons_zero, List.append_assoc, List.map_cons, List.map_nil, List.singleton_append, List.cons_append, List.nil_append]
theorem markS_ev (l : List ByteArray) (hl : l.length ≤ 1000) : ∀ (d i : Nat), l.length - i = d → i ≤ l.length → Ev (fun k => laws_markStringS.l0 k (marks i l) ((1 + i : Nat) : Int) (i : Int)) (((1 + l.length : Nat) : Int), marks l.length l) := by
  intro d
  induction d with
  | zero =>
    intro i hd hi
    obtain rfl : i = l.length := by omega
    exact ev_end (fun k => by rw [laws_markStringS.l0, if_neg (by rw [marks_len hi]; omega)])
  | succ d ih =>
    intro i hd hi
    refine Ev.step (fun k => by rw [laws_markStringS.l0, if_pos (by rw [marks_len hi]; omega)]) ?_
    refine Ev.bind (mt_f (n := 1 + i) (by omega) (by omega)) (evT (by omega) ?_)
    rw [Int.toNat_natCast, marks_succ (by omega)]
    have e1 : wrap64 (((1 + i : Nat) : Int) + 1) = ((1 + (i + 1) : Nat) : Int) := by rw [w64 (by omega) (by omega)]; omega
    have e2 : wrap64 ((i : Int) + 1) = ((i + 1 : Nat) : Int) := by rw [w64 (by omega) (by omega)]; omega
    rw [e1, e2]
    exact ih (i + 1) (by omega) (by omega)
theorem markS_f (l : List ByteArray) (hl : l.length ≤ 1000) : Ev (fun k => laws_markStringS.f k l 1) (((1 + l.length : Nat) : Int), marks l.length l) := by
  have := markS_ev l hl l.length 0 (by omega) (by omega)
  have e : marks 0 l = l := by unfold marks; simp
  rw [e] at this
  exact this
theorem heldS_ev (l : List ByteArray) (hl : l.length ≤ 1000) : ∀ (d i : Nat), l.length - i = d → i ≤ l.length → Ev (fun k => laws_heldStringS.l0 k (marks l.length l) ((1 + i : Nat) : Int) (i : Int)) ((1 + l.length : Nat) : Int) := by
  intro d
  induction d with
  | zero =>
    intro i hd hi
    obtain rfl : i = l.length := by omega
    exact ev_end (fun k => by rw [laws_heldStringS.l0, if_neg (by rw [marks_len (Nat.le_refl _)]; omega)])
  | succ d ih =>
    intro i hd hi
    have hlt : i < (marks l.length l).length := by rw [marks_len (Nat.le_refl _)]; omega
    have hv : (marks l.length l)[i] = mt (1 + i) := by
      have h1 : marks l.length l = (List.range l.length).map (fun j => mt (1 + j)) := by unfold marks; simp
      simp [h1]
    refine Ev.step (fun k => by rw [laws_heldStringS.l0, if_pos (by rw [marks_len (Nat.le_refl _)]; omega), if_pos (by omega), rdB hlt, hv]) ?_
    refine Ev.bind (mt_f (n := 1 + i) (by omega) (by omega)) (evT rfl ?_)
    have e1 : wrap64 (((1 + i : Nat) : Int) + 1) = ((1 + (i + 1) : Nat) : Int) := by rw [w64 (by omega) (by omega)]; omega
    have e2 : wrap64 ((i : Int) + 1) = ((i + 1 : Nat) : Int) := by rw [w64 (by omega) (by omega)]; omega
    rw [e1, e2]
    exact ih (i + 1) (by omega) (by omega)
theorem heldS_f (l : List ByteArray) (hl : l.length ≤ 1000) : Ev (fun k => laws_heldStringS.f k (marks l.length l) 1) ((1 + l.length : Nat) : Int) := heldS_ev l hl l.length 0 (by omega) (by omega)

theorem FnExactPartsOf (t : ByteArray) : ∃ k, laws_FnExactPartsOf.f k t = some true := by

  by_cases ht : (t.size : Int) > 1048576
  · exact Ev.rounds (evT ht (Ev.now _))
  refine Ev.rounds (evF ht ?_)
  have hlen : (partsR t).1.length ≤ 1000 := Nat.le_trans (partsR_len t) (by omega)
  have hsame : ((partsR t).2 != (partsR t).2) = false := by simp
  have hM := markS_f _ hlen
  have hH := heldS_f _ hlen
  refine Ev.bind (spec_PartsOf_f t) (Ev.bind (impl_PartsOf_f t) (Ev.bind (eqS_f _ hlen) (evT rfl ?_)))
  simp only [hsame]
  refine Ev.step (fun k => by rw [laws_FnExactPartsOf.j0, if_neg (by simp)]) ?_
  refine Ev.bind hM (Ev.bind hH (evF (by omega) (evT rfl (Ev.bind (impl_PartsOf_f t) (Ev.bind (eqS_f _ hlen) (evT rfl ?_))))))
  simp only [hsame]
  refine Ev.step (fun k => by rw [laws_FnExactPartsOf.j1, if_neg (by simp)]) ?_
  exact Ev.bind hH (evF (by omega) (evT rfl (Ev.now _)))

end Go.Proofs.YtdhpcchmhikgeaaDoor.Pure
