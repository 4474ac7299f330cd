/-
  No cell of these rows narrows 'for every input' (looked for: loops, veiled, ifaces, maps, wideKeys, modest, calm, conditions, laid).
  DERIVED. THE GIVEN ROWS OF THIS SEAT. 11 by the template 'for every input the law returns true; each argument reads behind the call as it read before'; 0 by the template 'total and deterministic' (their statements: YtkckdibalopagaaTotals.lean).
  GIVEN WITH THE SEED: the statements are not yours to turn. If you find one false, say at which input.
  Laid BY PROGRAM, IN A SANDBOX (cutbox-rows.mjs): the forced cells as the released guide's own fill.sh prints them over the translation 23094ba4dbbd9028… (all of the seat's roots in one cut). By AI agents, Wed Nov 11 2026. No macro, syntax, notation, axiom, sorry.
-/
import Derived.Test.YtkckdibalopagaaChecked
import GoSem.Claim
import GoSem.ClaimJoined
import GoSem.ClaimMapViews
import Derived.JoinedTies
import Derived.KernelRfl
namespace Go.Proofs.Ytkckdibalopagaa
/- THE CELL 'sum', in the pinned program and in every row, IS THE sha256 OF THE DUMP (.gsa) THAT YtkckdibalopagaaProg.lean LOADS. Nothing in Lean hashes anything: it is a label: what it is worth is what the hold of that sum in a sandbox is worth. -/
noncomputable def Try.pinned : Pinned := { name := "ytkckdibalopagaa", sum := "23094ba4dbbd90280ae6ce2ea3c86305ad26d84b451b72e137a106a8c5eabc92", checked := Try.checked }
namespace Rows
def none {H : Type} : Left H := { results := [], args := [] }

/-- 'laws.FnReaches': WHATEVER THE INPUT: true; the input reads as it did. -/
def fnReachesSpec : ChangeSpec := { name := "fnReaches", fn := fun _ => fun
  | [d] => { results := [.lit (.bool true)], args := [d] }
  | _ => none }
def fnReachesRow : OpenClaim := { program := "ytkckdibalopagaa", sum := "23094ba4dbbd90280ae6ce2ea3c86305ad26d84b451b72e137a106a8c5eabc92", func := "loop.example/g00466/laws.FnReaches", spec := "fnReaches", plainKeys := false, apart := false }
def FnReachesSaid : Prop := fnReachesRow.holds Try.pinned (OpenSpec.ofChange fnReachesSpec)

/-- ITS FALSE NEIGHBOUR: 'it returns false'. Refute it at one input. -/
def fnReachesWrong : ChangeSpec := { name := "fnReaches", fn := fun _ => fun
  | [d] => { results := [.lit (.bool false)], args := [d] }
  | _ => none }
def FnReachesWrongFalsely : Prop := fnReachesRow.holds Try.pinned (OpenSpec.ofChange fnReachesWrong)

/-- 'laws.FnExactArenaOk': WHATEVER THE INPUT: true; the input reads as it did. -/
def fnExactArenaOkSpec : ChangeSpec := { name := "fnExactArenaOk", fn := fun _ => fun
  | [d] => { results := [.lit (.bool true)], args := [d] }
  | _ => none }
def fnExactArenaOkRow : OpenClaim := { program := "ytkckdibalopagaa", sum := "23094ba4dbbd90280ae6ce2ea3c86305ad26d84b451b72e137a106a8c5eabc92", func := "loop.example/g00466/laws.FnExactArenaOk", spec := "fnExactArenaOk", plainKeys := false, apart := false }
def FnExactArenaOkSaid : Prop := fnExactArenaOkRow.holds Try.pinned (OpenSpec.ofChange fnExactArenaOkSpec)

/-- ITS FALSE NEIGHBOUR: 'it returns false'. Refute it at one input. -/
def fnExactArenaOkWrong : ChangeSpec := { name := "fnExactArenaOk", fn := fun _ => fun
  | [d] => { results := [.lit (.bool false)], args := [d] }
  | _ => none }
def FnExactArenaOkWrongFalsely : Prop := fnExactArenaOkRow.holds Try.pinned (OpenSpec.ofChange fnExactArenaOkWrong)

/-- 'laws.FnExactSizeOf': WHATEVER THE INPUT: true; the input reads as it did. -/
def fnExactSizeOfSpec : ChangeSpec := { name := "fnExactSizeOf", fn := fun _ => fun
  | [d1, d2] => { results := [.lit (.bool true)], args := [d1, d2] }
  | _ => none }
def fnExactSizeOfRow : OpenClaim := { program := "ytkckdibalopagaa", sum := "23094ba4dbbd90280ae6ce2ea3c86305ad26d84b451b72e137a106a8c5eabc92", func := "loop.example/g00466/laws.FnExactSizeOf", spec := "fnExactSizeOf", plainKeys := false, apart := false }
def FnExactSizeOfSaid : Prop := fnExactSizeOfRow.holds Try.pinned (OpenSpec.ofChange fnExactSizeOfSpec)

/-- ITS FALSE NEIGHBOUR: 'it returns false'. Refute it at one input. -/
def fnExactSizeOfWrong : ChangeSpec := { name := "fnExactSizeOf", fn := fun _ => fun
  | [d1, d2] => { results := [.lit (.bool false)], args := [d1, d2] }
  | _ => none }
def FnExactSizeOfWrongFalsely : Prop := fnExactSizeOfRow.holds Try.pinned (OpenSpec.ofChange fnExactSizeOfWrong)

/-- 'laws.FnExactTermText': WHATEVER THE INPUT: true; the input reads as it did. -/
def fnExactTermTextSpec : ChangeSpec := { name := "fnExactTermText", fn := fun _ => fun
  | [d1, d2] => { results := [.lit (.bool true)], args := [d1, d2] }
  | _ => none }
def fnExactTermTextRow : OpenClaim := { program := "ytkckdibalopagaa", sum := "23094ba4dbbd90280ae6ce2ea3c86305ad26d84b451b72e137a106a8c5eabc92", func := "loop.example/g00466/laws.FnExactTermText", spec := "fnExactTermText", recurses := true, plainKeys := false, apart := false }
def FnExactTermTextSaid : Prop := fnExactTermTextRow.holds Try.pinned (OpenSpec.ofChange fnExactTermTextSpec)

/-- ITS FALSE NEIGHBOUR: 'it returns false'. Refute it at one input. -/
def fnExactTermTextWrong : ChangeSpec := { name := "fnExactTermText", fn := fun _ => fun
  | [d1, d2] => { results := [.lit (.bool false)], args := [d1, d2] }
  | _ => none }
def FnExactTermTextWrongFalsely : Prop := fnExactTermTextRow.holds Try.pinned (OpenSpec.ofChange fnExactTermTextWrong)

/-- 'laws.FnExactList': WHATEVER THE INPUT: true; the input reads as it did. -/
def fnExactListSpec : ChangeSpec := { name := "fnExactList", fn := fun _ => fun
  | [d1, d2] => { results := [.lit (.bool true)], args := [d1, d2] }
  | _ => none }
def fnExactListRow : OpenClaim := { program := "ytkckdibalopagaa", sum := "23094ba4dbbd90280ae6ce2ea3c86305ad26d84b451b72e137a106a8c5eabc92", func := "loop.example/g00466/laws.FnExactList", spec := "fnExactList", plainKeys := false, apart := false }
def FnExactListSaid : Prop := fnExactListRow.holds Try.pinned (OpenSpec.ofChange fnExactListSpec)

/-- ITS FALSE NEIGHBOUR: 'it returns false'. Refute it at one input. -/
def fnExactListWrong : ChangeSpec := { name := "fnExactList", fn := fun _ => fun
  | [d1, d2] => { results := [.lit (.bool false)], args := [d1, d2] }
  | _ => none }
def FnExactListWrongFalsely : Prop := fnExactListRow.holds Try.pinned (OpenSpec.ofChange fnExactListWrong)

/-- 'laws.FnSecrets': WHATEVER THE INPUT: true; the input reads as it did. -/
def fnSecretsSpec : ChangeSpec := { name := "fnSecrets", fn := fun _ => fun
  | [d] => { results := [.lit (.bool true)], args := [d] }
  | _ => none }
def fnSecretsRow : OpenClaim := { program := "ytkckdibalopagaa", sum := "23094ba4dbbd90280ae6ce2ea3c86305ad26d84b451b72e137a106a8c5eabc92", func := "loop.example/g00466/laws.FnSecrets", spec := "fnSecrets", plainKeys := false, apart := false }
def FnSecretsSaid : Prop := fnSecretsRow.holds Try.pinned (OpenSpec.ofChange fnSecretsSpec)

/-- ITS FALSE NEIGHBOUR: 'it returns false'. Refute it at one input. -/
def fnSecretsWrong : ChangeSpec := { name := "fnSecrets", fn := fun _ => fun
  | [d] => { results := [.lit (.bool false)], args := [d] }
  | _ => none }
def FnSecretsWrongFalsely : Prop := fnSecretsRow.holds Try.pinned (OpenSpec.ofChange fnSecretsWrong)

/-- 'laws.FnMakes': WHATEVER THE INPUT: true; the input reads as it did. -/
def fnMakesSpec : ChangeSpec := { name := "fnMakes", fn := fun _ => fun
  | [d] => { results := [.lit (.bool true)], args := [d] }
  | _ => none }
def fnMakesRow : OpenClaim := { program := "ytkckdibalopagaa", sum := "23094ba4dbbd90280ae6ce2ea3c86305ad26d84b451b72e137a106a8c5eabc92", func := "loop.example/g00466/laws.FnMakes", spec := "fnMakes", recurses := true, plainKeys := false, apart := false }
def FnMakesSaid : Prop := fnMakesRow.holds Try.pinned (OpenSpec.ofChange fnMakesSpec)

/-- ITS FALSE NEIGHBOUR: 'it returns false'. Refute it at one input. -/
def fnMakesWrong : ChangeSpec := { name := "fnMakes", fn := fun _ => fun
  | [d] => { results := [.lit (.bool false)], args := [d] }
  | _ => none }
def FnMakesWrongFalsely : Prop := fnMakesRow.holds Try.pinned (OpenSpec.ofChange fnMakesWrong)

/-- 'laws.FnTermsTold': WHATEVER THE INPUT: true; the input reads as it did. -/
def fnTermsToldSpec : ChangeSpec := { name := "fnTermsTold", fn := fun _ => fun
  | [d] => { results := [.lit (.bool true)], args := [d] }
  | _ => none }
def fnTermsToldRow : OpenClaim := { program := "ytkckdibalopagaa", sum := "23094ba4dbbd90280ae6ce2ea3c86305ad26d84b451b72e137a106a8c5eabc92", func := "loop.example/g00466/laws.FnTermsTold", spec := "fnTermsTold", recurses := true, plainKeys := false, apart := false }
def FnTermsToldSaid : Prop := fnTermsToldRow.holds Try.pinned (OpenSpec.ofChange fnTermsToldSpec)

/-- ITS FALSE NEIGHBOUR: 'it returns false'. Refute it at one input. -/
def fnTermsToldWrong : ChangeSpec := { name := "fnTermsTold", fn := fun _ => fun
  | [d] => { results := [.lit (.bool false)], args := [d] }
  | _ => none }
def FnTermsToldWrongFalsely : Prop := fnTermsToldRow.holds Try.pinned (OpenSpec.ofChange fnTermsToldWrong)

/-- 'laws.FnExactReach': WHATEVER THE INPUT: true; the input reads as it did. -/
def fnExactReachSpec : ChangeSpec := { name := "fnExactReach", fn := fun _ => fun
  | [d1, d2] => { results := [.lit (.bool true)], args := [d1, d2] }
  | _ => none }
def fnExactReachRow : OpenClaim := { program := "ytkckdibalopagaa", sum := "23094ba4dbbd90280ae6ce2ea3c86305ad26d84b451b72e137a106a8c5eabc92", func := "loop.example/g00466/laws.FnExactReach", spec := "fnExactReach", plainKeys := false, apart := false }
def FnExactReachSaid : Prop := fnExactReachRow.holds Try.pinned (OpenSpec.ofChange fnExactReachSpec)

/-- ITS FALSE NEIGHBOUR: 'it returns false'. Refute it at one input. -/
def fnExactReachWrong : ChangeSpec := { name := "fnExactReach", fn := fun _ => fun
  | [d1, d2] => { results := [.lit (.bool false)], args := [d1, d2] }
  | _ => none }
def FnExactReachWrongFalsely : Prop := fnExactReachRow.holds Try.pinned (OpenSpec.ofChange fnExactReachWrong)

/-- 'laws.FnExactReadTerm': WHATEVER THE INPUT: true; the input reads as it did. -/
def fnExactReadTermSpec : ChangeSpec := { name := "fnExactReadTerm", fn := fun _ => fun
  | [d1, d2] => { results := [.lit (.bool true)], args := [d1, d2] }
  | _ => none }
def fnExactReadTermRow : OpenClaim := { program := "ytkckdibalopagaa", sum := "23094ba4dbbd90280ae6ce2ea3c86305ad26d84b451b72e137a106a8c5eabc92", func := "loop.example/g00466/laws.FnExactReadTerm", spec := "fnExactReadTerm", recurses := true, plainKeys := false, apart := false }
def FnExactReadTermSaid : Prop := fnExactReadTermRow.holds Try.pinned (OpenSpec.ofChange fnExactReadTermSpec)

/-- ITS FALSE NEIGHBOUR: 'it returns false'. Refute it at one input. -/
def fnExactReadTermWrong : ChangeSpec := { name := "fnExactReadTerm", fn := fun _ => fun
  | [d1, d2] => { results := [.lit (.bool false)], args := [d1, d2] }
  | _ => none }
def FnExactReadTermWrongFalsely : Prop := fnExactReadTermRow.holds Try.pinned (OpenSpec.ofChange fnExactReadTermWrong)

/-- 'laws.FnTerms': WHATEVER THE INPUT: true; the input reads as it did. -/
def fnTermsSpec : ChangeSpec := { name := "fnTerms", fn := fun _ => fun
  | [d] => { results := [.lit (.bool true)], args := [d] }
  | _ => none }
def fnTermsRow : OpenClaim := { program := "ytkckdibalopagaa", sum := "23094ba4dbbd90280ae6ce2ea3c86305ad26d84b451b72e137a106a8c5eabc92", func := "loop.example/g00466/laws.FnTerms", spec := "fnTerms", recurses := true, plainKeys := false, apart := false }
def FnTermsSaid : Prop := fnTermsRow.holds Try.pinned (OpenSpec.ofChange fnTermsSpec)

/-- ITS FALSE NEIGHBOUR: 'it returns false'. Refute it at one input. -/
def fnTermsWrong : ChangeSpec := { name := "fnTerms", fn := fun _ => fun
  | [d] => { results := [.lit (.bool false)], args := [d] }
  | _ => none }
def FnTermsWrongFalsely : Prop := fnTermsRow.holds Try.pinned (OpenSpec.ofChange fnTermsWrong)

/- THE SECOND FORM. 'bulk': how many values and letters a reading holds, each counted each time it is reached (what is shared counts as often as it is met; a slice's spare places count too). A statement '..UptoSaid' is the law's where the arguments, and the package variables that the reading takes, are together of bulk at most 1048576: NARROWER than '..Said'. Prove '..Said' where nothing that the law and all that it calls make is longer than what came in: it says more and counts as full. Else prove '..UptoSaid'. A law counts once. -/
mutual
def uptoBulk {H : Type} : DataW H → Nat
  | .lit (.string bytes) => bytes.length + 1
  | .lit _ => 1
  | .nil => 1
  | .ptr d => uptoBulk d + 1
  | .slice elems spare => uptoBulkAll elems + uptoBulkAll spare + 1
  | .agg parts => uptoBulkAll parts + 1
  | .iface _ d => uptoBulk d + 1
  | .map entries => uptoBulkEntries entries + 1
  | .held _ => 1
def uptoBulkAll {H : Type} : List (DataW H) → Nat
  | [] => 0
  | d :: r => uptoBulk d + uptoBulkAll r
def uptoBulkEntries {H : Type} : List (Lit × DataW H) → Nat
  | [] => 0
  | x :: r => uptoBulkEntry x + uptoBulkEntries r
def uptoBulkEntry {H : Type} : Lit × DataW H → Nat
  | (.string bytes, d) => bytes.length + uptoBulk d + 1
  | (_, d) => uptoBulk d + 1
 end
def uptoSmall : (H : Type) → List (DataW H) → Bool := fun _ ds => decide (uptoBulkAll ds ≤ 1048576)
def OpenSpec.upto (s : _root_.Go.ChangeSpec) : _root_.Go.OpenSpec := { _root_.Go.OpenSpec.ofChange s with cond := some uptoSmall }

/-- 'laws.FnReaches', WHERE WHAT IT READS IS OF BULK AT MOST 1048576: true; the input reads as it did. -/
def fnReachesUptoRow : OpenClaim := { program := "ytkckdibalopagaa", sum := "23094ba4dbbd90280ae6ce2ea3c86305ad26d84b451b72e137a106a8c5eabc92", func := "loop.example/g00466/laws.FnReaches", spec := "fnReaches", plainKeys := false, apart := false, narrowed := true }
def FnReachesUptoSaid : Prop := fnReachesUptoRow.holds Try.pinned (OpenSpec.upto fnReachesSpec)

/-- 'laws.FnExactArenaOk', WHERE WHAT IT READS IS OF BULK AT MOST 1048576: true; the input reads as it did. -/
def fnExactArenaOkUptoRow : OpenClaim := { program := "ytkckdibalopagaa", sum := "23094ba4dbbd90280ae6ce2ea3c86305ad26d84b451b72e137a106a8c5eabc92", func := "loop.example/g00466/laws.FnExactArenaOk", spec := "fnExactArenaOk", plainKeys := false, apart := false, narrowed := true }
def FnExactArenaOkUptoSaid : Prop := fnExactArenaOkUptoRow.holds Try.pinned (OpenSpec.upto fnExactArenaOkSpec)

/-- 'laws.FnExactSizeOf', WHERE WHAT IT READS IS OF BULK AT MOST 1048576: true; the input reads as it did. -/
def fnExactSizeOfUptoRow : OpenClaim := { program := "ytkckdibalopagaa", sum := "23094ba4dbbd90280ae6ce2ea3c86305ad26d84b451b72e137a106a8c5eabc92", func := "loop.example/g00466/laws.FnExactSizeOf", spec := "fnExactSizeOf", plainKeys := false, apart := false, narrowed := true }
def FnExactSizeOfUptoSaid : Prop := fnExactSizeOfUptoRow.holds Try.pinned (OpenSpec.upto fnExactSizeOfSpec)

/-- 'laws.FnExactTermText', WHERE WHAT IT READS IS OF BULK AT MOST 1048576: true; the input reads as it did. -/
def fnExactTermTextUptoRow : OpenClaim := { program := "ytkckdibalopagaa", sum := "23094ba4dbbd90280ae6ce2ea3c86305ad26d84b451b72e137a106a8c5eabc92", func := "loop.example/g00466/laws.FnExactTermText", spec := "fnExactTermText", recurses := true, plainKeys := false, apart := false, narrowed := true }
def FnExactTermTextUptoSaid : Prop := fnExactTermTextUptoRow.holds Try.pinned (OpenSpec.upto fnExactTermTextSpec)

/-- 'laws.FnExactList', WHERE WHAT IT READS IS OF BULK AT MOST 1048576: true; the input reads as it did. -/
def fnExactListUptoRow : OpenClaim := { program := "ytkckdibalopagaa", sum := "23094ba4dbbd90280ae6ce2ea3c86305ad26d84b451b72e137a106a8c5eabc92", func := "loop.example/g00466/laws.FnExactList", spec := "fnExactList", plainKeys := false, apart := false, narrowed := true }
def FnExactListUptoSaid : Prop := fnExactListUptoRow.holds Try.pinned (OpenSpec.upto fnExactListSpec)

/-- 'laws.FnSecrets', WHERE WHAT IT READS IS OF BULK AT MOST 1048576: true; the input reads as it did. -/
def fnSecretsUptoRow : OpenClaim := { program := "ytkckdibalopagaa", sum := "23094ba4dbbd90280ae6ce2ea3c86305ad26d84b451b72e137a106a8c5eabc92", func := "loop.example/g00466/laws.FnSecrets", spec := "fnSecrets", plainKeys := false, apart := false, narrowed := true }
def FnSecretsUptoSaid : Prop := fnSecretsUptoRow.holds Try.pinned (OpenSpec.upto fnSecretsSpec)

/-- 'laws.FnMakes', WHERE WHAT IT READS IS OF BULK AT MOST 1048576: true; the input reads as it did. -/
def fnMakesUptoRow : OpenClaim := { program := "ytkckdibalopagaa", sum := "23094ba4dbbd90280ae6ce2ea3c86305ad26d84b451b72e137a106a8c5eabc92", func := "loop.example/g00466/laws.FnMakes", spec := "fnMakes", recurses := true, plainKeys := false, apart := false, narrowed := true }
def FnMakesUptoSaid : Prop := fnMakesUptoRow.holds Try.pinned (OpenSpec.upto fnMakesSpec)

/-- 'laws.FnTermsTold', WHERE WHAT IT READS IS OF BULK AT MOST 1048576: true; the input reads as it did. -/
def fnTermsToldUptoRow : OpenClaim := { program := "ytkckdibalopagaa", sum := "23094ba4dbbd90280ae6ce2ea3c86305ad26d84b451b72e137a106a8c5eabc92", func := "loop.example/g00466/laws.FnTermsTold", spec := "fnTermsTold", recurses := true, plainKeys := false, apart := false, narrowed := true }
def FnTermsToldUptoSaid : Prop := fnTermsToldUptoRow.holds Try.pinned (OpenSpec.upto fnTermsToldSpec)

/-- 'laws.FnExactReach', WHERE WHAT IT READS IS OF BULK AT MOST 1048576: true; the input reads as it did. -/
def fnExactReachUptoRow : OpenClaim := { program := "ytkckdibalopagaa", sum := "23094ba4dbbd90280ae6ce2ea3c86305ad26d84b451b72e137a106a8c5eabc92", func := "loop.example/g00466/laws.FnExactReach", spec := "fnExactReach", plainKeys := false, apart := false, narrowed := true }
def FnExactReachUptoSaid : Prop := fnExactReachUptoRow.holds Try.pinned (OpenSpec.upto fnExactReachSpec)

/-- 'laws.FnExactReadTerm', WHERE WHAT IT READS IS OF BULK AT MOST 1048576: true; the input reads as it did. -/
def fnExactReadTermUptoRow : OpenClaim := { program := "ytkckdibalopagaa", sum := "23094ba4dbbd90280ae6ce2ea3c86305ad26d84b451b72e137a106a8c5eabc92", func := "loop.example/g00466/laws.FnExactReadTerm", spec := "fnExactReadTerm", recurses := true, plainKeys := false, apart := false, narrowed := true }
def FnExactReadTermUptoSaid : Prop := fnExactReadTermUptoRow.holds Try.pinned (OpenSpec.upto fnExactReadTermSpec)

/-- 'laws.FnTerms', WHERE WHAT IT READS IS OF BULK AT MOST 1048576: true; the input reads as it did. -/
def fnTermsUptoRow : OpenClaim := { program := "ytkckdibalopagaa", sum := "23094ba4dbbd90280ae6ce2ea3c86305ad26d84b451b72e137a106a8c5eabc92", func := "loop.example/g00466/laws.FnTerms", spec := "fnTerms", recurses := true, plainKeys := false, apart := false, narrowed := true }
def FnTermsUptoSaid : Prop := fnTermsUptoRow.holds Try.pinned (OpenSpec.upto fnTermsSpec)

end Rows
end Go.Proofs.Ytkckdibalopagaa
