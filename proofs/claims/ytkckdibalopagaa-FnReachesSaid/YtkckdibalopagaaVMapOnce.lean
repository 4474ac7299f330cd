/- A map that the call itself made, whose keys were each put once with 1: looked up, and counted on ('m[k]++' as the translation lays it: an entry, then its store). The proofs are the kit's 'entry_then_store' turned. -/
import Derived.WideKeyEntry
import Derived.WideKeyElems
import Derived.DeepKeys4
import Derived.Laws.AppendOwn
namespace Go.Proofs.Ytkckdibalopagaa.Base
open Go Go.WideMaps Go.WideElems Go.MapKept Go.ChangeMaps
set_option linter.unusedVariables false
set_option linter.unusedSimpArgs false

variable {P : Program}
/-- block b is a map whose keys are vs, in this order, each with 1 -/
def Once (P : Program) (k : TypeId) (w : World) (b : Nat) (vs : List Value) : Prop :=
  ∃ es clock, w.heap[b]? = some (.map es clock) ∧ Stamped es clock ∧ es.toList.map (·.key) = vs ∧ (∀ x ∈ es.toList, x.val = .int .i64 1) ∧ ∀ x ∈ es.toList, ∃ l, keyOf P k x.key = some l
theorem Once.made (P : Program) (k : TypeId) (w : World) : Once P k (w.alloc (.map #[] 0)) w.heap.size [] :=
  ⟨#[], 0, (MapKept.heap_alloc w _).1, stamped_empty 0, rfl, by simp, by simp⟩
theorem Once.lt {k : TypeId} {w : World} {b : Nat} {vs : List Value} (h : Once P k w b vs) : b < w.heap.size := by
  obtain ⟨es, clock, hb, _⟩ := h
  exact (Array.getElem?_eq_some_iff.1 hb).1
theorem Once.move {k : TypeId} {w w' : World} {b : Nat} {vs : List Value} (h : Once P k w b vs) (hm : w'.heap[b]? = w.heap[b]?) : Once P k w' b vs := by
  obtain ⟨es, clock, hb, r⟩ := h
  exact ⟨es, clock, hm.trans hb, r⟩
theorem once_absent {k t e : TypeId} (K : KeyLaw P k) (ht : P.underlying t = some (.map k e)) (hz : ∀ u : World, (zeroValue e).run P u = .ok (.int .i64 0) u) {w : World} {b : Nat} {vs : List Value} (h : Once P k w b vs)
    {key : Value} {kl : Lit} (hkey : keyOf P k key = some kl) (hno : key ∉ vs) :
    ∃ (st : Nat) (u2 u3 : World), (Instr.lookup t (.map (some b)) key false).run P w = .ok (.int .i64 0) w ∧
      (Instr.mapEntry t (.map (some b)) key).run P w = .ok (.tuple #[.int .i64 0, .int .i64 (st : Int)]) u2 ∧
      (Instr.lookup t (.map (some b)) key false).run P u2 = .ok (.int .i64 0) u2 ∧
      (Instr.entryStore t (.map (some b)) (.int .i64 (st : Int)) (.int .i64 1)).run P u2 = .ok () u3 ∧
      Once P k u3 b (vs ++ [key]) ∧ w.grownBy u3 (some b) ∧ ∀ w' : World, w'.heap[b]? = u3.heap[b]? → (Instr.lookup t (.map (some b)) key false).run P w' = .ok (.int .i64 1) w' := by
  obtain ⟨es, clock, hb, hst, hks, hvs, hk⟩ := h
  obtain ⟨s1, s2, s3⟩ := hst
  have hne : ∀ x ∈ es.toList, x.key ≠ key := fun x hx he => hno (by rw [← hks]; exact he ▸ List.mem_map_of_mem hx)
  have h1 : ∀ u : World, (Instr.findKey k key es.toList).run P u = .ok none u := by
    intro u
    rcases K.find u hkey es.toList hk with ⟨h1, _⟩ | ⟨j, e0, _, h2, h3⟩
    · exact h1
    · exact absurd h3 (hne e0 (List.mem_of_getElem? h2))
  -- the row with the new entry: what is found there
  have found : ∀ (v : Value) (u : World), (Instr.findKey k key (es.push ⟨key, v, clock⟩).toList).run P u = .ok (some (es.size, v)) u := by
    intro v u
    have hk2 : ∀ x ∈ (es.push ⟨key, v, clock⟩).toList, ∃ l, keyOf P k x.key = some l := by
      intro x hx
      rw [Array.toList_push] at hx
      rcases List.mem_append.1 hx with hx | hx
      · exact hk x hx
      · rw [List.mem_singleton.1 hx]; exact ⟨kl, hkey⟩
    rcases K.find u hkey _ hk2 with ⟨_, h2⟩ | ⟨j, e0, h2, h3, h4⟩
    · exact absurd rfl (h2 ⟨key, v, clock⟩ (by simp))
    · rw [h2]
      rw [Array.toList_push] at h3
      rcases Nat.lt_or_ge j es.toList.length with hj | hj
      · rw [List.getElem?_append_left hj] at h3
        exact absurd h4 (hne e0 (List.mem_of_getElem? h3))
      · rw [List.getElem?_append_right hj] at h3
        have hj2 : j - es.toList.length = 0 := by
          by_cases h0 : j - es.toList.length = 0
          · exact h0
          · rw [List.getElem?_eq_none (by simp only [List.length_singleton]; omega)] at h3; cases h3
        rw [hj2] at h3
        simp at h3
        subst h3
        have : j = es.size := by rw [← Array.length_toList]; omega
        rw [this]
  have hlook : ∀ (v : Value) (c : Nat) (u : World), u.heap[b]? = some (.map (es.push ⟨key, v, clock⟩) c) → (Instr.lookup t (.map (some b)) key false).run P u = .ok v u := by
    intro v c u hu
    have hf := found v u
    simp only [Array.toList_push] at hf
    simp [Instr.lookup, run_underlying ht, MapKept.run_getObj_map hu, K.check u _ hkey, hf, Result.andThen]
  have hstore : ∀ w2 : World, w2.heap[b]? = some (.map (es.push ⟨key, .int .i64 0, clock⟩) (clock + 1)) → (Instr.entryStore t (.map (some b)) (.int .i64 (clock : Int)) (.int .i64 1)).run P w2 = .ok () (setBlock w2 b (.map (es.push ⟨key, .int .i64 1, clock⟩) (clock + 1))) := by
    intro w2 hw2
    have hidx : (es.push ⟨key, .int .i64 0, clock⟩).findIdx? (fun e => ((e.born : Nat) : Int) == ((clock : Nat) : Int)) = some es.size := by
      rw [findIdx_arr]
      have := findIdx_born (l := (es.push ⟨key, .int .i64 0, clock⟩).toList) (j := es.size) (e0 := ⟨key, .int .i64 0, clock⟩) (by
        simp only [Array.toList_push, List.map_append, List.map_cons, List.map_nil]
        refine List.nodup_append.2 ⟨s2, by simp, fun a ha c hc e1 => ?_⟩
        simp only [List.mem_singleton] at hc
        obtain ⟨x, hx, rfl⟩ := List.mem_map.1 ha
        have := s1 x hx
        omega) (by simp)
      exact this
    have hmod : (es.push ⟨key, .int .i64 0, clock⟩).modify es.size (fun e => { e with val := .int .i64 1 }) = es.push ⟨key, .int .i64 1, clock⟩ := by
      apply Array.ext'
      rw [Array.toList_modify, Array.toList_push, Array.toList_push, ← Array.length_toList, modify_last]
    simp [Instr.entryStore, MapKept.run_getObj_map hw2, asInt, asIntOf, goInt, hidx, hmod, MapKept.run_setObj_map _ hw2, Result.andThen, setBlock]
  refine ⟨clock, setBlock w b (.map (es.push ⟨key, .int .i64 0, clock⟩) (clock + 1)), setBlock (setBlock w b (.map (es.push ⟨key, .int .i64 0, clock⟩) (clock + 1))) b (.map (es.push ⟨key, .int .i64 1, clock⟩) (clock + 1)), ?_, ?_, ?_, ?_, ?_, ?_, ?_⟩
  · simp [Instr.lookup, run_underlying ht, MapKept.run_getObj_map hb, K.check w _ hkey, h1, hz, Result.andThen]
  · simp [Instr.mapEntry, run_underlying ht, MapKept.run_getObj_map hb, K.check w false hkey, h1, hz, MapKept.run_setObj_map _ hb, Result.andThen, setBlock, goInt]
  · exact hlook _ _ _ (heap_setBlock_same hb _)
  · exact hstore _ (heap_setBlock_same hb _)
  · have hw2 := heap_setBlock_same hb (.map (es.push ⟨key, .int .i64 0, clock⟩) (clock + 1))
    refine ⟨es.push ⟨key, .int .i64 1, clock⟩, clock + 1, heap_setBlock_same hw2 _, ?_, ?_, ?_, ?_⟩
    · exact stamped_push ⟨s1, s2, s3⟩ hne
    · simp [hks]
    · intro x hx
      rw [Array.toList_push] at hx
      rcases List.mem_append.1 hx with hx | hx
      · exact hvs x hx
      · rw [List.mem_singleton.1 hx]
    · intro x hx
      rw [Array.toList_push] at hx
      rcases List.mem_append.1 hx with hx | hx
      · exact hk x hx
      · rw [List.mem_singleton.1 hx]; exact ⟨kl, hkey⟩
  · have hw2 := heap_setBlock_same hb (.map (es.push ⟨key, .int .i64 0, clock⟩) (clock + 1))
    exact ⟨rfl, rfl, rfl, by simp [setBlock], fun i _ hi => (heap_setBlock_other hw2 _ (fun e => hi (by rw [e]))).trans (heap_setBlock_other hb _ (fun e => hi (by rw [e])))⟩
  · intro w' hw'
    have hw2 := heap_setBlock_same hb (.map (es.push ⟨key, .int .i64 0, clock⟩) (clock + 1))
    rw [heap_setBlock_same hw2] at hw'
    exact hlook _ _ _ hw'
theorem once_present {k t e : TypeId} (K : KeyLaw P k) (ht : P.underlying t = some (.map k e)) {w : World} {b : Nat} {vs : List Value} (h : Once P k w b vs)
    {key : Value} {kl : Lit} (hkey : keyOf P k key = some kl) (hin : key ∈ vs) :
    ∃ (st : Nat) (u2 u3 : World), (Instr.lookup t (.map (some b)) key false).run P w = .ok (.int .i64 1) w ∧
      (Instr.mapEntry t (.map (some b)) key).run P w = .ok (.tuple #[.int .i64 1, .int .i64 (st : Int)]) u2 ∧
      (Instr.lookup t (.map (some b)) key false).run P u2 = .ok (.int .i64 1) u2 ∧
      (Instr.entryStore t (.map (some b)) (.int .i64 (st : Int)) (.int .i64 2)).run P u2 = .ok () u3 ∧
      w.grownBy u3 (some b) ∧ ∀ w' : World, w'.heap[b]? = u3.heap[b]? → (Instr.lookup t (.map (some b)) key false).run P w' = .ok (.int .i64 2) w' := by
  obtain ⟨es, clock, hb, hst, hks, hvs, hk⟩ := h
  obtain ⟨s1, s2, s3⟩ := hst
  have fnd : ∃ (j : Nat) (e0 : MapEntry), (∀ u : World, (Instr.findKey k key es.toList).run P u = .ok (some (j, e0.val)) u) ∧ es.toList[j]? = some e0 ∧ e0.key = key := by
    rw [← hks] at hin
    obtain ⟨e1, he1, hke⟩ := List.mem_map.1 hin
    obtain ⟨j, hj, hje⟩ := List.getElem_of_mem he1
    refine ⟨j, e1, fun u => ?_, by rw [List.getElem?_eq_getElem hj, hje], hke⟩
    rcases K.find u hkey es.toList hk with ⟨_, h2⟩ | ⟨i, e0, h1, h2, h3⟩
    · exact absurd hke (h2 e1 he1)
    · -- the keys are apart: it is this one
      have hij : i = j := by
        obtain ⟨hi, hie⟩ := List.getElem?_eq_some_iff.1 h2
        refine (List.getElem_inj (xs := es.toList.map (·.key)) (h₀ := by rw [List.length_map]; exact hi) (h₁ := by rw [List.length_map]; exact hj) s3).1 ?_
        rw [List.getElem_map, List.getElem_map, hie, hje, h3, hke]
      subst hij
      rw [List.getElem?_eq_getElem hj] at h2
      injection h2 with h2
      rw [hje] at h2
      subst h2
      exact h1
  obtain ⟨j, e0, h1, h2, h3⟩ := fnd
  have hv0 : e0.val = .int .i64 1 := hvs e0 (List.mem_of_getElem? h2)
  rw [hv0] at h1
  have hj : es[j]? = some e0 := by simpa using h2
  have hsame : es.modify j (fun e => { e with key := key }) = es := by
    apply Array.ext'
    rw [Array.toList_modify, modify_eq_set _ _ _ _ h2]
    have : ({ e0 with key := key } : MapEntry) = e0 := by rw [← h3]
    rw [this]
    exact set_self _ _ _ h2
  have hlook1 : ∀ u : World, u.heap[b]? = some (.map es clock) → (Instr.lookup t (.map (some b)) key false).run P u = .ok (.int .i64 1) u := by
    intro u hu
    simp [Instr.lookup, run_underlying ht, MapKept.run_getObj_map hu, K.check u _ hkey, h1, Result.andThen]
  have hstore : ∀ w2 : World, w2.heap[b]? = some (.map es clock) → (Instr.entryStore t (.map (some b)) (.int .i64 (e0.born : Int)) (.int .i64 2)).run P w2 = .ok () (setBlock w2 b (.map (es.modify j (fun e' => { e' with val := .int .i64 2 })) clock)) := by
    intro w2 hw2
    have hidx : es.findIdx? (fun e => ((e.born : Nat) : Int) == ((e0.born : Nat) : Int)) = some j := by
      rw [findIdx_arr]
      exact findIdx_born s2 h2
    simp [Instr.entryStore, MapKept.run_getObj_map hw2, asInt, asIntOf, goInt, hidx, MapKept.run_setObj_map _ hw2, Result.andThen, setBlock]
  have h5 : ∀ u : World, (Instr.findKey k key (es.modify j (fun e' => { e' with val := .int .i64 2 })).toList).run P u = .ok (some (j, .int .i64 2)) u := by
    intro u
    have el : (es.modify j (fun e' => { e' with val := .int .i64 2 })).toList = es.toList.set j { e0 with val := .int .i64 2 } := by
      rw [Array.toList_modify, modify_eq_set _ _ _ _ h2]
    have hjl : j < es.toList.length := (List.getElem?_eq_some_iff.1 h2).1
    have hkeys : (es.toList.set j { e0 with val := .int .i64 2 }).map (·.key) = es.toList.map (·.key) := by
      rw [List.map_set]
      exact set_self _ _ _ (by rw [List.getElem?_map, h2]; rfl)
    have hk2 : ∀ x ∈ es.toList.set j { e0 with val := .int .i64 2 }, ∃ l, keyOf P k x.key = some l := by
      intro x hx
      rcases List.mem_or_eq_of_mem_set hx with hx | hx
      · exact hk x hx
      · rw [hx]; exact ⟨kl, by rw [h3]; exact hkey⟩
    rw [el]
    rcases K.find u hkey _ hk2 with ⟨_, h6⟩ | ⟨i, e1, h6, h7, h8⟩
    · exact absurd h3 (h6 { e0 with val := .int .i64 2 } (List.mem_of_getElem? (by rw [List.getElem?_set_self hjl])))
    · have hij : i = j := by
        obtain ⟨hi, hie⟩ := List.getElem?_eq_some_iff.1 h7
        rw [List.length_set] at hi
        refine (List.getElem_inj (xs := es.toList.map (·.key)) (h₀ := by rw [List.length_map]; exact hi) (h₁ := by rw [List.length_map]; exact hjl) s3).1 ?_
        have a1 : (es.toList.map (·.key))[i]? = some key := by rw [← hkeys, List.getElem?_map, h7]; simp [h8]
        have a2 : (es.toList.map (·.key))[j]? = some key := by rw [List.getElem?_map, h2]; simp [h3]
        have b1 := (List.getElem?_eq_some_iff.1 a1).2
        have b2 := (List.getElem?_eq_some_iff.1 a2).2
        rw [b1, b2]
      subst hij
      rw [List.getElem?_set_self hjl] at h7
      injection h7 with h7
      subst h7
      exact h6
  refine ⟨e0.born, setBlock w b (.map es clock), setBlock (setBlock w b (.map es clock)) b (.map (es.modify j (fun e' => { e' with val := .int .i64 2 })) clock), hlook1 w hb, ?_, hlook1 _ (heap_setBlock_same hb _), hstore _ (heap_setBlock_same hb _), ?_, ?_⟩
  · simp [Instr.mapEntry, run_underlying ht, MapKept.run_getObj_map hb, K.check w false hkey, h1, hj, h3, hv0, K.stays w hkey, hsame, MapKept.run_setObj_map _ hb, Result.andThen, setBlock, goInt]
  · have hw2 := heap_setBlock_same hb (.map es clock)
    exact ⟨rfl, rfl, rfl, by simp [setBlock], fun i _ hi => (heap_setBlock_other hw2 _ (fun e => hi (by rw [e]))).trans (heap_setBlock_other hb _ (fun e => hi (by rw [e])))⟩
  · intro w' hw'
    have hw2 := heap_setBlock_same hb (.map es clock)
    rw [heap_setBlock_same hw2] at hw'
    have hf := h5 w'
    simp [Instr.lookup, run_underlying ht, MapKept.run_getObj_map hw', K.check w' _ hkey, Result.andThen]
    simp at hf
    simp [hf]
end Go.Proofs.Ytkckdibalopagaa.Base
