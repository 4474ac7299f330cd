/- Proved: the program's ReadTerm returns what the reference's ReadTerm returns, for every arena and every text, in memory of its own, and leaves the arena as it was; no condition. -/
import Derived.Test.YtkckdibalopagaaRows
import Derived.Test.YtkckdibalopagaaPureFnExactReadTerm
import Derived.Test.YtkckdibalopagaaRArena
import Derived.WalkKit
import Derived.ProofKit
import Derived.OpenShut
import Derived.ShutString
import Derived.ChangeOld
import Derived.Below
import Derived.SizedLaws
import Derived.Lib.SmallJoins
namespace Go.Proofs.Ytkckdibalopagaa.fnExactReadTerm
open Go.ChangeShapes Go.WideShapes Go.ChangeAt Go.RowKit Go.Joins Go.Proofs.Ytkckdibalopagaa.Base Go.Proofs.YtkckdibalopagaaW.PrintWords
open Go.ChangeMaps (open_string shut_string)
set_option linter.unusedVariables false
set_option linter.unusedSimpArgs false
theorem own : ownKnob Try.prog.godebug = none := by kernel_rfl
theorem laidOut : laidOutB Try.prog = true := by kernel_rfl
abbrev Nd := SFnExactReadTerm.S126
def mkN (q : Int × Int × Int × Int) : Nd := ⟨q.1, q.2.1, q.2.2.1, q.2.2.2⟩
theorem node_row {W : World} {A : Option Addr} {n : Nat} {l : List (Int × Int × Int × Int)} (h : Quads W A n l) : Kd.C SFnExactReadTerm.k126 W A (l.map mkN).length (l.map mkN) := by
  obtain ⟨h1, h2, h3⟩ := h
  unfold maxLen at h2
  refine ⟨rfl, by rw [List.length_map, h1]; exact h2, fun hn => ?_⟩
  obtain ⟨ad, e, hc⟩ := h3 (by rw [List.length_map, h1] at hn; exact hn)
  refine ⟨ad, e, fun j p hj => ?_⟩
  rw [List.getElem?_map] at hj
  obtain ⟨q, hq, rfl⟩ := Option.map_eq_some_iff.1 hj
  obtain ⟨_, c0, c1, c2, c3⟩ := hc j q hq
  refine ⟨[.int .i64 q.1, .int .i64 q.2.1, .int .i64 q.2.2.1, .int .i64 q.2.2.2], rfl, SFnExactReadTerm.k126_mk _ (mkN q), fun i u hi => ?_⟩
  rcases i with _ | _ | _ | _ | i
  · simp at hi; subst hi; exact c0
  · simp at hi; subst hi; exact c1
  · simp at hi; subst hi; exact c2
  · simp at hi; subst hi; exact c3
  · simp at hi
theorem node_wf {W : World} {A : Option Addr} {n : Nat} {l : List (Int × Int × Int × Int)} (h : Quads W A n l) : ∀ x ∈ l.map mkN, (Lit.int .i64 x.f0).wf = true ∧ (Lit.int .i64 x.f1).wf = true ∧ (Lit.int .i64 x.f2).wf = true ∧ (Lit.int .i64 x.f3).wf = true := by
  intro x hx
  obtain ⟨q, hq, rfl⟩ := List.mem_map.1 hx
  obtain ⟨i, hi, he⟩ := List.getElem_of_mem hq
  obtain ⟨h1, h2, h3⟩ := h
  obtain ⟨ad, e, hc⟩ := h3 (by omega)
  exact (hc i q (by rw [List.getElem?_eq_getElem hi, he])).1
theorem cells126 : Try.prog.cellsOf 126 = 4 := by kernel_rfl
theorem cells41 : Try.prog.cellsOf 41 = 1 := by kernel_rfl
theorem cells3 : Try.prog.cellsOf 3 = 1 := by kernel_rfl
set_option maxRecDepth 100000 in
theorem lifted (os : Os) (started : os.Started) (H : Type) (enc : TypeId × Value → H) :
    ReturnsInHanded {} Try.checked os 12 .any (Rows.fnExactReadTermSpec.pre6 enc Try.prog Try.f12 Rows.fnExactReadTermRow.domain false) (Rows.fnExactReadTermSpec.post enc Try.prog Try.f12 false true false false) := by
  refine returnsInHanded_of_change_sized (C := Try.checked) own started (by kernel_rfl) Try.func12
    (ChangeSpec.witness6 (enc := enc) (C := Try.checked) false ⟨#[], #[.agg #[.slice none 0 0], .string ByteArray.empty], []⟩ 8 (by kernel_rfl) (by kernel_rfl) (by kernel_rfl) (by kernel_rfl)) ?_
  intro W base args ds gs before hval0 hW hcnd hsz0 _
  have hsz : (DataW.weightsEach Try.prog (Try.f12.params.toList ++ Rows.fnExactReadTermSpec.plain.varTypes Try.prog) (ds ++ gs)).all (· ≤ reachBytes) = true := hsz0
  have hval : ∀ (j : Nat) t v, Try.f12.params[j]? = some t → args[j]? = some v → Value.okWide Try.prog W .any base t v := hval0
  have hW' := hW
  obtain ⟨p, q, hA0, hV, rfl, hfz, hnd⟩ := hW
  have hA : DataW.TrodAll enc Try.prog W 0 (fun _ => true) true Try.f12.params.toList args.toList ds p := hA0
  rw [Try.params12] at hA hval hsz
  obtain ⟨v0, vs0, d0, ds0, p0, q0, hargs, rfl, rfl, h0, r0⟩ := trodAll_cons hA
  obtain ⟨v1, vs1, d1, ds1, p1, q1, rfl, rfl, rfl, h1, r1⟩ := trodAll_cons r0
  obtain ⟨rfl, rfl, rfl⟩ := trodAll_nil r1
  obtain rfl : args = #[v0, v1] := by cases args; simp_all
  obtain ⟨rfl, rfl⟩ := trodVars_none hV
  have k0 := h0
  have lt0 : ∀ x ∈ p0, x.block < W.heap.size := by obtain ⟨m, hm⟩ := k0; exact DataW.trod_lt m _ _ _ hm
  obtain ⟨u0, x0, n0, rfl, hu0⟩ := open_arena (ts := 39) Try.underlying41 (by kernel_rfl) cells41 rfl (hval 0 41 v0 rfl rfl) h0
  obtain ⟨A0, m0, c0, l0, he0, hc0, hM0, hq0⟩ := open_quads (ti := 3) Try.underlying39 Try.underlying126 cells126 rfl rfl rfl rfl rfl rfl rfl rfl Try.underlying3 cells3 hu0
  simp only [List.cons.injEq, and_true] at he0
  subst he0
  have hr0 := node_row hq0
  have hn0 := node_wf hq0
  obtain ⟨L0, hL0⟩ : ∃ L, l0.map mkN = L := ⟨_, rfl⟩
  have hm0 : L0.length = m0 := by rw [← hL0, List.length_map]; exact hq0.1
  rw [hL0] at hr0 hn0
  have hle0 : L0.length ≤ 9223372036854775807 := by rw [hm0]; have := hq0.2.1; unfold maxLen at this; exact this
  clear hq0 hL0
  subst hm0
  obtain ⟨a1, rfl, rfl, rfl, y1⟩ := open_string Try.underlying9 (hval 1 9 v1 rfl rfl) h1
  have w1 : a1.size ≤ 140737488351232 := by
    have z := sized_string hsz (j := 1) (t := 9) rfl rfl
    rw [Array.length_toList] at z
    exact z
  clear hA0 hval0 hsz0 hsz
  obtain ⟨k, hk⟩ := Pure.FnExactReadTerm L0 a1 hle0 hn0 w1
  refine (SFnExactReadTerm.laws_FnExactReadTerm.calls k A0 c0 L0 a1 true W hr0 hc0 hk).mono fun e W' ⟨he, bel⟩ => ?_
  subst he
  exact ⟨_, rfl, _, _, _, [], _, [], hW', trodAll_mk1 (shut_bool Try.underlying4 _), (trodAll_cons_mk (Below.trod laidOut (by kernel_rfl) (of_decide_eq_true (by kernel_rfl)) k0 bel lt0) (trodAll_cons_mk (shut_string Try.underlying9 y1) trodAll_mk0)), rfl, bel.frame _, fun h => by cases h⟩
theorem over : Rows.fnExactReadTermRow.holds Try.pinned (OpenSpec.ofChange Rows.fnExactReadTermSpec) :=
  OpenClaim.holds_of_wide 12 Try.f12 rfl rfl rfl rfl rfl rfl rfl ⟨rfl, rfl, rfl, rfl, rfl⟩ rfl rfl rfl rfl rfl (by kernel_rfl) Try.func12 (by kernel_rfl)
    (of_decide_eq_true (by kernel_rfl)) (by unfold Func.isWrapper; first | (rw [if_pos (by decide +kernel)]; kernel_rfl) | (rw [if_neg (by decide +kernel)]; exact ⟨rfl, rfl⟩))
    (fun os started H enc _ => lifted os started H enc)
theorem proved : Rows.FnExactReadTermSaid := over
#print axioms proved
end Go.Proofs.Ytkckdibalopagaa.fnExactReadTerm
namespace Go.Proofs.Ytkckdibalopagaa
/-- The row, under a short name, for the claim. -/
theorem fnExactReadTerm_holds : Rows.FnExactReadTermSaid := fnExactReadTerm.proved
end Go.Proofs.Ytkckdibalopagaa
