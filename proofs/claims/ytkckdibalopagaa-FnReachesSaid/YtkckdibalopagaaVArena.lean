/- Opening an argument that is a struct whose one field is a slice of structs of four ints. Plain laws over any program. -/
import Derived.Test.YtkckdibalopagaaVWMore
import Derived.Lib.SmallJoins
namespace Go.Proofs.Ytkckdibalopagaa.Base
open Go.RowKit Go.Deep Go.WideShapes Go.ChangeShapes Go.Joins
set_option linter.unusedVariables false
set_option linter.unusedSimpArgs false

variable {H : Type} {enc : TypeId × Value → H} {P : Program} {w : World} {spare : Nat → Bool} {held : Bool}
/-- four whole numbers in range -/
def Wf4 (q : Int × Int × Int × Int) : Prop := (Lit.int .i64 q.1).wf = true ∧ (Lit.int .i64 q.2.1).wf = true ∧ (Lit.int .i64 q.2.2.1).wf = true ∧ (Lit.int .i64 q.2.2.2).wf = true
/-- a row of such structs, as it lies in memory -/
def Quads (w : World) (A : Option Addr) (n : Nat) (l : List (Int × Int × Int × Int)) : Prop :=
  l.length = n ∧ n ≤ maxLen ∧ (0 < n → ∃ ad, A = some ad ∧ ∀ i q, l[i]? = some q → Wf4 q ∧
    w.cell? (ad.add (i * 4)) = some (.int .i64 q.1) ∧ w.cell? (ad.add (i * 4 + 1)) = some (.int .i64 q.2.1) ∧ w.cell? (ad.add (i * 4 + 2)) = some (.int .i64 q.2.2.1) ∧ w.cell? (ad.add (i * 4 + 3)) = some (.int .i64 q.2.2.2))
end Go.Proofs.Ytkckdibalopagaa.Base
