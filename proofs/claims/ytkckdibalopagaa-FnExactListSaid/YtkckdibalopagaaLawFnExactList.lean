/- Proved: the program's List returns what the reference's List returns, for every arena and every list of places, in memory of its own, and leaves its arguments as they were; no condition. -/
import Derived.Test.YtkckdibalopagaaRows
import Derived.Test.YtkckdibalopagaaPureFnExactList
import Derived.Test.YtkckdibalopagaaArena
import Derived.WalkKit
import Derived.ProofKit
import Derived.OpenShut
import Derived.ShutString
import Derived.ChangeOld
import Derived.Below
import Derived.SizedLaws
import Derived.Lib.SmallJoins
import Derived.Test.YtkckdibalopagaaWSized
namespace Go.Proofs.Ytkckdibalopagaa.fnExactList
open Go.ChangeShapes Go.WideShapes Go.ChangeAt Go.RowKit Go.Joins Go.Proofs.Ytkckdibalopagaa.Base Go.Proofs.YtkckdibalopagaaW.PrintWords
open Go.ChangeMaps (open_string shut_string)
open Go.Proofs.YtkckdibalopagaaW.PrintLast Go.Proofs.YtkckdibalopagaaW.PrintMore
set_option linter.unusedVariables false
set_option linter.unusedSimpArgs false
theorem own : ownKnob Try.prog.godebug = none := by kernel_rfl
theorem laidOut : laidOutB Try.prog = true := by kernel_rfl
abbrev Nd := SFnExactList.S126
def mkN (q : Int × Int × Int × Int) : Nd := ⟨q.1, q.2.1, q.2.2.1, q.2.2.2⟩
theorem node_row {W : World} {A : Option Addr} {n : Nat} {l : List (Int × Int × Int × Int)} (h : Quads W A n l) : Kd.C SFnExactList.k126 W A (l.map mkN).length (l.map mkN) := by
  obtain ⟨h1, h2, h3⟩ := h
  unfold maxLen at h2
  refine ⟨rfl, by rw [List.length_map, h1]; exact h2, fun hn => ?_⟩
  obtain ⟨ad, e, hc⟩ := h3 (by rw [List.length_map, h1] at hn; exact hn)
  refine ⟨ad, e, fun j p hj => ?_⟩
  rw [List.getElem?_map] at hj
  obtain ⟨q, hq, rfl⟩ := Option.map_eq_some_iff.1 hj
  obtain ⟨_, c0, c1, c2, c3⟩ := hc j q hq
  refine ⟨[.int .i64 q.1, .int .i64 q.2.1, .int .i64 q.2.2.1, .int .i64 q.2.2.2], rfl, SFnExactList.k126_mk _ (mkN q), fun i u hi => ?_⟩
  rcases i with _ | _ | _ | _ | i
  · simp at hi; subst hi; exact c0
  · simp at hi; subst hi; exact c1
  · simp at hi; subst hi; exact c2
  · simp at hi; subst hi; exact c3
  · simp at hi
theorem node_wf {W : World} {A : Option Addr} {n : Nat} {l : List (Int × Int × Int × Int)} (h : Quads W A n l) : ∀ x ∈ l.map mkN, (Lit.int .i64 x.f0).wf = true ∧ (Lit.int .i64 x.f1).wf = true ∧ (Lit.int .i64 x.f2).wf = true ∧ (Lit.int .i64 x.f3).wf = true := by
  intro x hx
  obtain ⟨q, hq, rfl⟩ := List.mem_map.1 hx
  obtain ⟨i, hi, he⟩ := List.getElem_of_mem hq
  obtain ⟨h1, h2, h3⟩ := h
  obtain ⟨ad, e, hc⟩ := h3 (by omega)
  exact (hc i q (by rw [List.getElem?_eq_getElem hi, he])).1
theorem cells126 : Try.prog.cellsOf 126 = 4 := by kernel_rfl
theorem cells41 : Try.prog.cellsOf 41 = 1 := by kernel_rfl
theorem cells3 : Try.prog.cellsOf 3 = 1 := by kernel_rfl
def IsRow (k : IntKind) (w : World) (a : Option Addr) (len cap : Nat) (zs : List Int) : Prop :=
  (a = none ∧ len = 0 ∧ cap = 0 ∧ zs = []) ∨
  ∃ x, a = some x ∧ len ≤ cap ∧ cap ≤ maxLen ∧ zs.length = cap ∧ (∀ i, i < zs.length → w.cell? (x.add i) = some (.int k (zs.getD i 0))) ∧ ∀ n ∈ zs, (Lit.int k n).wf = true
set_option maxRecDepth 100000 in
theorem lifted (os : Os) (started : os.Started) (H : Type) (enc : TypeId × Value → H) :
    ReturnsInHanded {} Try.checked os 7 .any (Rows.fnExactListSpec.pre6 enc Try.prog Try.f7 Rows.fnExactListRow.domain false) (Rows.fnExactListSpec.post enc Try.prog Try.f7 false true false false) := by
  refine returnsInHanded_of_change_sized (C := Try.checked) own started (by kernel_rfl) Try.func7
    (ChangeSpec.witness6 (enc := enc) (C := Try.checked) false ⟨#[], #[.agg #[.slice none 0 0], .slice none 0 0], []⟩ 8 (by kernel_rfl) (by kernel_rfl) (by kernel_rfl) (by kernel_rfl)) ?_
  intro W base args ds gs before hval0 hW hcnd hsz0 _
  have hsz : (DataW.weightsEach Try.prog (Try.f7.params.toList ++ Rows.fnExactListSpec.plain.varTypes Try.prog) (ds ++ gs)).all (· ≤ reachBytes) = true := hsz0
  have hval : ∀ (j : Nat) t v, Try.f7.params[j]? = some t → args[j]? = some v → Value.okWide Try.prog W .any base t v := hval0
  have hW' := hW
  obtain ⟨p, q, hA0, hV, rfl, hfz, hnd⟩ := hW
  have hA : DataW.TrodAll enc Try.prog W 0 (fun _ => true) true Try.f7.params.toList args.toList ds p := hA0
  rw [Try.params7] at hA hval hsz
  obtain ⟨v0, vs0, d0, ds0, p0, q0, hargs, rfl, rfl, h0, r0⟩ := trodAll_cons hA
  obtain ⟨v1, vs1, d1, ds1, p1, q1, rfl, rfl, rfl, h1, r1⟩ := trodAll_cons r0
  obtain ⟨rfl, rfl, rfl⟩ := trodAll_nil r1
  obtain rfl : args = #[v0, v1] := by cases args; simp_all
  obtain ⟨rfl, rfl⟩ := trodVars_none hV
  have k0 := h0
  have lt0 : ∀ x ∈ p0, x.block < W.heap.size := by obtain ⟨m, hm⟩ := k0; exact DataW.trod_lt m _ _ _ hm
  obtain ⟨u0, x0, n0, rfl, hu0⟩ := open_arena (ts := 39) Try.underlying41 (by kernel_rfl) cells41 rfl (hval 0 41 v0 rfl rfl) h0
  obtain ⟨A0, m0, c0, l0, he0, hc0, hM0, hq0⟩ := open_quads (ti := 3) Try.underlying39 Try.underlying126 cells126 rfl rfl rfl rfl rfl rfl rfl rfl Try.underlying3 cells3 hu0
  simp only [List.cons.injEq, and_true] at he0
  subst he0
  have hr0 := node_row hq0
  have hn0 := node_wf hq0
  obtain ⟨L0, hL0⟩ : ∃ L, l0.map mkN = L := ⟨_, rfl⟩
  have hm0 : L0.length = m0 := by rw [← hL0, List.length_map]; exact hq0.1
  rw [hL0] at hr0 hn0
  have hle0 : L0.length ≤ 9223372036854775807 := by rw [hm0]; have := hq0.2.1; unfold maxLen at this; exact this
  clear hq0 hL0
  subst hm0
  obtain ⟨b1, len1, cap1, rfl⟩ := okWide_slice Try.underlying27 (hval 1 27 v1 rfl rfl)
  have k1 := h1
  have lt1 : ∀ x ∈ p1, x.block < W.heap.size := by obtain ⟨m, hm⟩ := k1; exact DataW.trod_lt m _ _ _ hm
  obtain ⟨z1, w1⟩ : ∃ zs, IsRow .i64 W b1 len1 cap1 zs := by
    obtain ⟨fuel, hf⟩ := h1
    rcases open_ints Try.underlying27 Try.underlying3 (by kernel_rfl) hf with ⟨hcs, _⟩ | ⟨x, l, c, zs, hcs, _, hl, hm, hz, _, hcell, hwz⟩
    · simp [Value.cells] at hcs
      obtain ⟨rfl, rfl, rfl⟩ := hcs
      exact ⟨[], .inl ⟨rfl, rfl, rfl, rfl⟩⟩
    · simp [Value.cells] at hcs
      obtain ⟨rfl, rfl, rfl⟩ := hcs
      exact ⟨zs, .inr ⟨_, rfl, hl, hm, by simpa using hz, hcell, hwz⟩⟩
  have y1 : len1 * 8 ≤ 140737488351232 := Go.Proofs.YtkckdibalopagaaW.PrintWords.sized_ints hsz (j := 1) (t := 27) rfl rfl Try.underlying27 Try.underlying3 (by kernel_rfl) (by kernel_rfl) h1
  obtain ⟨L1, hL1, hr1, hx1, hw1, hc1⟩ := ReadsInt.ofRowC w1
  subst hL1
  clear hA0 hval0 hsz0 hsz
  obtain ⟨k, hk⟩ := Pure.FnExactList L0 L1 hle0 hn0 y1 hw1
  refine (SFnExactList.laws_FnExactList.calls k A0 c0 L0 b1 cap1 L1 true W hr0 hc0 (Kd.C_of_reads (d := (0 : Int)) (h1 := fun _ => rfl) hr1) hc1 hk).mono fun e W' ⟨he, bel⟩ => ?_
  subst he
  exact ⟨_, rfl, _, _, _, [], _, [], hW', trodAll_mk1 (shut_bool Try.underlying4 _), (trodAll_cons_mk (Below.trod laidOut (by kernel_rfl) (of_decide_eq_true (by kernel_rfl)) k0 bel lt0) (trodAll_cons_mk (Below.trod laidOut (by kernel_rfl) (of_decide_eq_true (by kernel_rfl)) k1 bel lt1) trodAll_mk0)), rfl, bel.frame _, fun h => by cases h⟩
theorem over : Rows.fnExactListRow.holds Try.pinned (OpenSpec.ofChange Rows.fnExactListSpec) :=
  OpenClaim.holds_of_wide 7 Try.f7 rfl rfl rfl rfl rfl rfl rfl ⟨rfl, rfl, rfl, rfl, rfl⟩ rfl rfl rfl rfl rfl (by kernel_rfl) Try.func7 (by kernel_rfl)
    (of_decide_eq_true (by kernel_rfl)) (by unfold Func.isWrapper; first | (rw [if_pos (by decide +kernel)]; kernel_rfl) | (rw [if_neg (by decide +kernel)]; exact ⟨rfl, rfl⟩))
    (fun os started H enc _ => lifted os started H enc)
theorem proved : Rows.FnExactListSaid := over
#print axioms proved
end Go.Proofs.Ytkckdibalopagaa.fnExactList
namespace Go.Proofs.Ytkckdibalopagaa
/-- The row, under a short name, for the claim. -/
theorem fnExactList_holds : Rows.FnExactListSaid := fnExactList.proved
end Go.Proofs.Ytkckdibalopagaa
