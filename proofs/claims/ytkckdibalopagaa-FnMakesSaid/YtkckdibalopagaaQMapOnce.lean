/- A map that the call itself made, whose keys were each put once with 1: looked up, and counted on ('m[k]++' as the translation lays it: an entry, then its store). The proofs are the kit's 'entry_then_store' turned. -/
import Derived.WideKeyEntry
import Derived.WideKeyElems
import Derived.DeepKeys4
import Derived.Laws.AppendOwn
namespace Go.Proofs.Ytkckdibalopagaa.Base
open Go Go.WideMaps Go.WideElems Go.MapKept Go.ChangeMaps
set_option linter.unusedVariables false
set_option linter.unusedSimpArgs false

variable {P : Program}
/-- block b is a map whose keys are vs, in this order, each with 1 -/
def Once (P : Program) (k : TypeId) (w : World) (b : Nat) (vs : List Value) : Prop :=
  ∃ es clock, w.heap[b]? = some (.map es clock) ∧ Stamped es clock ∧ es.toList.map (·.key) = vs ∧ (∀ x ∈ es.toList, x.val = .int .i64 1) ∧ ∀ x ∈ es.toList, ∃ l, keyOf P k x.key = some l
theorem Once.lt {k : TypeId} {w : World} {b : Nat} {vs : List Value} (h : Once P k w b vs) : b < w.heap.size := by
  obtain ⟨es, clock, hb, _⟩ := h
  exact (Array.getElem?_eq_some_iff.1 hb).1
end Go.Proofs.Ytkckdibalopagaa.Base
