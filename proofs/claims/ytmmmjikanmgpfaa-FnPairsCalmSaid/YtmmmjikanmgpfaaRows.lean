/-
  No cell of these rows narrows 'for every input' (looked for: loops, veiled, ifaces, maps, wideKeys, modest, calm, conditions, laid).
  DERIVED. THE GIVEN ROWS OF THIS SEAT. 3 by the template 'for every input the law returns true; each argument reads behind the call as it read before'; 0 by the template 'total and deterministic' (their statements: YtmmmjikanmgpfaaTotals.lean).
  GIVEN WITH THE SEED: the statements are not yours to turn. If you find one false, say at which input.
  Laid BY PROGRAM, IN A SANDBOX (cutbox-rows.mjs): the forced cells as the released guide's own fill.sh prints them over the translation 7f25c790197c8818… (all of the seat's roots in one cut). By AI agents, Wed Nov 11 2026. No macro, syntax, notation, axiom, sorry.
-/
import Derived.Test.YtmmmjikanmgpfaaChecked
import GoSem.Claim
import GoSem.ClaimJoined
import GoSem.ClaimMapViews
import Derived.JoinedTies
import Derived.KernelRfl
namespace Go.Proofs.Ytmmmjikanmgpfaa
/- THE CELL 'sum', in the pinned program and in every row, IS THE sha256 OF THE DUMP (.gsa) THAT YtmmmjikanmgpfaaProg.lean LOADS. Nothing in Lean hashes anything: it is a label: what it is worth is what the hold of that sum in a sandbox is worth. -/
noncomputable def Try.pinned : Pinned := { name := "ytmmmjikanmgpfaa", sum := "7f25c790197c88181910d6c326657be760cc58b05b938b722ff335026dc2ddbb", checked := Try.checked }
namespace Rows
def none {H : Type} : Left H := { results := [], args := [] }

/-- 'laws.FnPairs': WHATEVER THE INPUT: true; the input reads as it did. -/
def fnPairsSpec : ChangeSpec := { name := "fnPairs", fn := fun _ => fun
  | [d] => { results := [.lit (.bool true)], args := [d] }
  | _ => none }
def fnPairsRow : OpenClaim := { program := "ytmmmjikanmgpfaa", sum := "7f25c790197c88181910d6c326657be760cc58b05b938b722ff335026dc2ddbb", func := "loop.example/g00250/laws.FnPairs", spec := "fnPairs", apart := false }
def FnPairsSaid : Prop := fnPairsRow.holds Try.pinned (OpenSpec.ofChange fnPairsSpec)

/-- ITS FALSE NEIGHBOUR: 'it returns false'. Refute it at one input. -/
def fnPairsWrong : ChangeSpec := { name := "fnPairs", fn := fun _ => fun
  | [d] => { results := [.lit (.bool false)], args := [d] }
  | _ => none }
def FnPairsWrongFalsely : Prop := fnPairsRow.holds Try.pinned (OpenSpec.ofChange fnPairsWrong)

/-- 'laws.FnPairsCalm': WHATEVER THE INPUT: true; the input reads as it did. -/
def fnPairsCalmSpec : ChangeSpec := { name := "fnPairsCalm", fn := fun _ => fun
  | [d] => { results := [.lit (.bool true)], args := [d] }
  | _ => none }
def fnPairsCalmRow : OpenClaim := { program := "ytmmmjikanmgpfaa", sum := "7f25c790197c88181910d6c326657be760cc58b05b938b722ff335026dc2ddbb", func := "loop.example/g00250/laws.FnPairsCalm", spec := "fnPairsCalm", apart := false }
def FnPairsCalmSaid : Prop := fnPairsCalmRow.holds Try.pinned (OpenSpec.ofChange fnPairsCalmSpec)

/-- ITS FALSE NEIGHBOUR: 'it returns false'. Refute it at one input. -/
def fnPairsCalmWrong : ChangeSpec := { name := "fnPairsCalm", fn := fun _ => fun
  | [d] => { results := [.lit (.bool false)], args := [d] }
  | _ => none }
def FnPairsCalmWrongFalsely : Prop := fnPairsCalmRow.holds Try.pinned (OpenSpec.ofChange fnPairsCalmWrong)

/-- 'laws.FnExactRunPair': WHATEVER THE INPUT: true; the input reads as it did. -/
def fnExactRunPairSpec : ChangeSpec := { name := "fnExactRunPair", fn := fun _ => fun
  | [d] => { results := [.lit (.bool true)], args := [d] }
  | _ => none }
def fnExactRunPairRow : OpenClaim := { program := "ytmmmjikanmgpfaa", sum := "7f25c790197c88181910d6c326657be760cc58b05b938b722ff335026dc2ddbb", func := "loop.example/g00250/laws.FnExactRunPair", spec := "fnExactRunPair", apart := false }
def FnExactRunPairSaid : Prop := fnExactRunPairRow.holds Try.pinned (OpenSpec.ofChange fnExactRunPairSpec)

/-- ITS FALSE NEIGHBOUR: 'it returns false'. Refute it at one input. -/
def fnExactRunPairWrong : ChangeSpec := { name := "fnExactRunPair", fn := fun _ => fun
  | [d] => { results := [.lit (.bool false)], args := [d] }
  | _ => none }
def FnExactRunPairWrongFalsely : Prop := fnExactRunPairRow.holds Try.pinned (OpenSpec.ofChange fnExactRunPairWrong)

/- THE SECOND FORM. 'bulk': how many values and letters a reading holds, each counted each time it is reached (what is shared counts as often as it is met; a slice's spare places count too). A statement '..UptoSaid' is the law's where the arguments, and the package variables that the reading takes, are together of bulk at most 1048576: NARROWER than '..Said'. Prove '..Said' where nothing that the law and all that it calls make is longer than what came in: it says more and counts as full. Else prove '..UptoSaid'. A law counts once. -/
mutual
def uptoBulk {H : Type} : DataW H → Nat
  | .lit (.string bytes) => bytes.length + 1
  | .lit _ => 1
  | .nil => 1
  | .ptr d => uptoBulk d + 1
  | .slice elems spare => uptoBulkAll elems + uptoBulkAll spare + 1
  | .agg parts => uptoBulkAll parts + 1
  | .iface _ d => uptoBulk d + 1
  | .map entries => uptoBulkEntries entries + 1
  | .held _ => 1
def uptoBulkAll {H : Type} : List (DataW H) → Nat
  | [] => 0
  | d :: r => uptoBulk d + uptoBulkAll r
def uptoBulkEntries {H : Type} : List (Lit × DataW H) → Nat
  | [] => 0
  | x :: r => uptoBulkEntry x + uptoBulkEntries r
def uptoBulkEntry {H : Type} : Lit × DataW H → Nat
  | (.string bytes, d) => bytes.length + uptoBulk d + 1
  | (_, d) => uptoBulk d + 1
 end
def uptoSmall : (H : Type) → List (DataW H) → Bool := fun _ ds => decide (uptoBulkAll ds ≤ 1048576)
def OpenSpec.upto (s : _root_.Go.ChangeSpec) : _root_.Go.OpenSpec := { _root_.Go.OpenSpec.ofChange s with cond := some uptoSmall }

/-- 'laws.FnPairs', WHERE WHAT IT READS IS OF BULK AT MOST 1048576: true; the input reads as it did. -/
def fnPairsUptoRow : OpenClaim := { program := "ytmmmjikanmgpfaa", sum := "7f25c790197c88181910d6c326657be760cc58b05b938b722ff335026dc2ddbb", func := "loop.example/g00250/laws.FnPairs", spec := "fnPairs", apart := false, narrowed := true }
def FnPairsUptoSaid : Prop := fnPairsUptoRow.holds Try.pinned (OpenSpec.upto fnPairsSpec)

/-- 'laws.FnPairsCalm', WHERE WHAT IT READS IS OF BULK AT MOST 1048576: true; the input reads as it did. -/
def fnPairsCalmUptoRow : OpenClaim := { program := "ytmmmjikanmgpfaa", sum := "7f25c790197c88181910d6c326657be760cc58b05b938b722ff335026dc2ddbb", func := "loop.example/g00250/laws.FnPairsCalm", spec := "fnPairsCalm", apart := false, narrowed := true }
def FnPairsCalmUptoSaid : Prop := fnPairsCalmUptoRow.holds Try.pinned (OpenSpec.upto fnPairsCalmSpec)

/-- 'laws.FnExactRunPair', WHERE WHAT IT READS IS OF BULK AT MOST 1048576: true; the input reads as it did. -/
def fnExactRunPairUptoRow : OpenClaim := { program := "ytmmmjikanmgpfaa", sum := "7f25c790197c88181910d6c326657be760cc58b05b938b722ff335026dc2ddbb", func := "loop.example/g00250/laws.FnExactRunPair", spec := "fnExactRunPair", apart := false, narrowed := true }
def FnExactRunPairUptoSaid : Prop := fnExactRunPairUptoRow.holds Try.pinned (OpenSpec.upto fnExactRunPairSpec)

end Rows
end Go.Proofs.Ytmmmjikanmgpfaa
