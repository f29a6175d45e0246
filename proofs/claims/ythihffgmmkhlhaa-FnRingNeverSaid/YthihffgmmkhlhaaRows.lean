/-
  No cell of these rows narrows 'for every input' (looked for: loops, veiled, ifaces, maps, wideKeys, modest, calm, conditions, laid).
  DERIVED. THE GIVEN ROWS OF THIS SEAT. 9 by the template 'for every input the law returns true; each argument reads behind the call as it read before'; 0 by the template 'total and deterministic' (their statements: YthihffgmmkhlhaaTotals.lean).
  GIVEN WITH THE SEED: the statements are not yours to turn. If you find one false, say at which input.
  Laid BY PROGRAM, IN A SANDBOX (cutbox-rows.mjs): the forced cells as the released guide's own fill.sh prints them over the translation 7f251185bff5f17c… (all of the seat's roots in one cut). By AI agents, Wed Nov 11 2026. No macro, syntax, notation, axiom, sorry.
-/
import Derived.Test.YthihffgmmkhlhaaChecked
import GoSem.Claim
import GoSem.ClaimJoined
import GoSem.ClaimMapViews
import Derived.JoinedTies
import Derived.KernelRfl
namespace Go.Proofs.Ythihffgmmkhlhaa
/- THE CELL 'sum', in the pinned program and in every row, IS THE sha256 OF THE DUMP (.gsa) THAT YthihffgmmkhlhaaProg.lean LOADS. Nothing in Lean hashes anything: it is a label: what it is worth is what the hold of that sum in a sandbox is worth. -/
noncomputable def Try.pinned : Pinned := { name := "ythihffgmmkhlhaa", sum := "7f251185bff5f17cad0150f535e78897c8d1144f6248a4dd85b777cb31782df3", checked := Try.checked }
namespace Rows
def none {H : Type} : Left H := { results := [], args := [] }

/-- 'laws.FnExactEventOk': WHATEVER THE INPUT: true; the input reads as it did. -/
def fnExactEventOkSpec : ChangeSpec := { name := "fnExactEventOk", fn := fun _ => fun
  | [d] => { results := [.lit (.bool true)], args := [d] }
  | _ => none }
def fnExactEventOkRow : OpenClaim := { program := "ythihffgmmkhlhaa", sum := "7f251185bff5f17cad0150f535e78897c8d1144f6248a4dd85b777cb31782df3", func := "loop.example/g00250/laws.FnExactEventOk", spec := "fnExactEventOk", apart := false }
def FnExactEventOkSaid : Prop := fnExactEventOkRow.holds Try.pinned (OpenSpec.ofChange fnExactEventOkSpec)

/-- ITS FALSE NEIGHBOUR: 'it returns false'. Refute it at one input. -/
def fnExactEventOkWrong : ChangeSpec := { name := "fnExactEventOk", fn := fun _ => fun
  | [d] => { results := [.lit (.bool false)], args := [d] }
  | _ => none }
def FnExactEventOkWrongFalsely : Prop := fnExactEventOkRow.holds Try.pinned (OpenSpec.ofChange fnExactEventOkWrong)

/-- 'laws.FnExactRingSum': WHATEVER THE INPUT: true; the input reads as it did. -/
def fnExactRingSumSpec : ChangeSpec := { name := "fnExactRingSum", fn := fun _ => fun
  | [d] => { results := [.lit (.bool true)], args := [d] }
  | _ => none }
def fnExactRingSumRow : OpenClaim := { program := "ythihffgmmkhlhaa", sum := "7f251185bff5f17cad0150f535e78897c8d1144f6248a4dd85b777cb31782df3", func := "loop.example/g00250/laws.FnExactRingSum", spec := "fnExactRingSum", apart := false }
def FnExactRingSumSaid : Prop := fnExactRingSumRow.holds Try.pinned (OpenSpec.ofChange fnExactRingSumSpec)

/-- ITS FALSE NEIGHBOUR: 'it returns false'. Refute it at one input. -/
def fnExactRingSumWrong : ChangeSpec := { name := "fnExactRingSum", fn := fun _ => fun
  | [d] => { results := [.lit (.bool false)], args := [d] }
  | _ => none }
def FnExactRingSumWrongFalsely : Prop := fnExactRingSumRow.holds Try.pinned (OpenSpec.ofChange fnExactRingSumWrong)

/-- 'laws.FnRingNever': WHATEVER THE INPUT: true; the input reads as it did. -/
def fnRingNeverSpec : ChangeSpec := { name := "fnRingNever", fn := fun _ => fun
  | [d] => { results := [.lit (.bool true)], args := [d] }
  | _ => none }
def fnRingNeverRow : OpenClaim := { program := "ythihffgmmkhlhaa", sum := "7f251185bff5f17cad0150f535e78897c8d1144f6248a4dd85b777cb31782df3", func := "loop.example/g00250/laws.FnRingNever", spec := "fnRingNever", apart := false }
def FnRingNeverSaid : Prop := fnRingNeverRow.holds Try.pinned (OpenSpec.ofChange fnRingNeverSpec)

/-- ITS FALSE NEIGHBOUR: 'it returns false'. Refute it at one input. -/
def fnRingNeverWrong : ChangeSpec := { name := "fnRingNever", fn := fun _ => fun
  | [d] => { results := [.lit (.bool false)], args := [d] }
  | _ => none }
def FnRingNeverWrongFalsely : Prop := fnRingNeverRow.holds Try.pinned (OpenSpec.ofChange fnRingNeverWrong)

/-- 'laws.FnRings': WHATEVER THE INPUT: true; the input reads as it did. -/
def fnRingsSpec : ChangeSpec := { name := "fnRings", fn := fun _ => fun
  | [d] => { results := [.lit (.bool true)], args := [d] }
  | _ => none }
def fnRingsRow : OpenClaim := { program := "ythihffgmmkhlhaa", sum := "7f251185bff5f17cad0150f535e78897c8d1144f6248a4dd85b777cb31782df3", func := "loop.example/g00250/laws.FnRings", spec := "fnRings", apart := false }
def FnRingsSaid : Prop := fnRingsRow.holds Try.pinned (OpenSpec.ofChange fnRingsSpec)

/-- ITS FALSE NEIGHBOUR: 'it returns false'. Refute it at one input. -/
def fnRingsWrong : ChangeSpec := { name := "fnRings", fn := fun _ => fun
  | [d] => { results := [.lit (.bool false)], args := [d] }
  | _ => none }
def FnRingsWrongFalsely : Prop := fnRingsRow.holds Try.pinned (OpenSpec.ofChange fnRingsWrong)

/-- 'laws.FnExactRingStep': WHATEVER THE INPUT: true; the input reads as it did. -/
def fnExactRingStepSpec : ChangeSpec := { name := "fnExactRingStep", fn := fun _ => fun
  | [d1, d2] => { results := [.lit (.bool true)], args := [d1, d2] }
  | _ => none }
def fnExactRingStepRow : OpenClaim := { program := "ythihffgmmkhlhaa", sum := "7f251185bff5f17cad0150f535e78897c8d1144f6248a4dd85b777cb31782df3", func := "loop.example/g00250/laws.FnExactRingStep", spec := "fnExactRingStep", apart := false }
def FnExactRingStepSaid : Prop := fnExactRingStepRow.holds Try.pinned (OpenSpec.ofChange fnExactRingStepSpec)

/-- ITS FALSE NEIGHBOUR: 'it returns false'. Refute it at one input. -/
def fnExactRingStepWrong : ChangeSpec := { name := "fnExactRingStep", fn := fun _ => fun
  | [d1, d2] => { results := [.lit (.bool false)], args := [d1, d2] }
  | _ => none }
def FnExactRingStepWrongFalsely : Prop := fnExactRingStepRow.holds Try.pinned (OpenSpec.ofChange fnExactRingStepWrong)

/-- 'laws.FnRingSteps': WHATEVER THE INPUT: true; the input reads as it did. -/
def fnRingStepsSpec : ChangeSpec := { name := "fnRingSteps", fn := fun _ => fun
  | [d] => { results := [.lit (.bool true)], args := [d] }
  | _ => none }
def fnRingStepsRow : OpenClaim := { program := "ythihffgmmkhlhaa", sum := "7f251185bff5f17cad0150f535e78897c8d1144f6248a4dd85b777cb31782df3", func := "loop.example/g00250/laws.FnRingSteps", spec := "fnRingSteps", apart := false }
def FnRingStepsSaid : Prop := fnRingStepsRow.holds Try.pinned (OpenSpec.ofChange fnRingStepsSpec)

/-- ITS FALSE NEIGHBOUR: 'it returns false'. Refute it at one input. -/
def fnRingStepsWrong : ChangeSpec := { name := "fnRingSteps", fn := fun _ => fun
  | [d] => { results := [.lit (.bool false)], args := [d] }
  | _ => none }
def FnRingStepsWrongFalsely : Prop := fnRingStepsRow.holds Try.pinned (OpenSpec.ofChange fnRingStepsWrong)

/-- 'laws.FnRingsCalm': WHATEVER THE INPUT: true; the input reads as it did. -/
def fnRingsCalmSpec : ChangeSpec := { name := "fnRingsCalm", fn := fun _ => fun
  | [d] => { results := [.lit (.bool true)], args := [d] }
  | _ => none }
def fnRingsCalmRow : OpenClaim := { program := "ythihffgmmkhlhaa", sum := "7f251185bff5f17cad0150f535e78897c8d1144f6248a4dd85b777cb31782df3", func := "loop.example/g00250/laws.FnRingsCalm", spec := "fnRingsCalm", apart := false }
def FnRingsCalmSaid : Prop := fnRingsCalmRow.holds Try.pinned (OpenSpec.ofChange fnRingsCalmSpec)

/-- ITS FALSE NEIGHBOUR: 'it returns false'. Refute it at one input. -/
def fnRingsCalmWrong : ChangeSpec := { name := "fnRingsCalm", fn := fun _ => fun
  | [d] => { results := [.lit (.bool false)], args := [d] }
  | _ => none }
def FnRingsCalmWrongFalsely : Prop := fnRingsCalmRow.holds Try.pinned (OpenSpec.ofChange fnRingsCalmWrong)

/-- 'laws.FnExactCalmRing': WHATEVER THE INPUT: true; the input reads as it did. -/
def fnExactCalmRingSpec : ChangeSpec := { name := "fnExactCalmRing", fn := fun _ => fun
  | [d] => { results := [.lit (.bool true)], args := [d] }
  | _ => none }
def fnExactCalmRingRow : OpenClaim := { program := "ythihffgmmkhlhaa", sum := "7f251185bff5f17cad0150f535e78897c8d1144f6248a4dd85b777cb31782df3", func := "loop.example/g00250/laws.FnExactCalmRing", spec := "fnExactCalmRing", apart := false }
def FnExactCalmRingSaid : Prop := fnExactCalmRingRow.holds Try.pinned (OpenSpec.ofChange fnExactCalmRingSpec)

/-- ITS FALSE NEIGHBOUR: 'it returns false'. Refute it at one input. -/
def fnExactCalmRingWrong : ChangeSpec := { name := "fnExactCalmRing", fn := fun _ => fun
  | [d] => { results := [.lit (.bool false)], args := [d] }
  | _ => none }
def FnExactCalmRingWrongFalsely : Prop := fnExactCalmRingRow.holds Try.pinned (OpenSpec.ofChange fnExactCalmRingWrong)

/-- 'laws.FnExactRunRing': WHATEVER THE INPUT: true; the input reads as it did. -/
def fnExactRunRingSpec : ChangeSpec := { name := "fnExactRunRing", fn := fun _ => fun
  | [d1, d2] => { results := [.lit (.bool true)], args := [d1, d2] }
  | _ => none }
def fnExactRunRingRow : OpenClaim := { program := "ythihffgmmkhlhaa", sum := "7f251185bff5f17cad0150f535e78897c8d1144f6248a4dd85b777cb31782df3", func := "loop.example/g00250/laws.FnExactRunRing", spec := "fnExactRunRing", apart := false }
def FnExactRunRingSaid : Prop := fnExactRunRingRow.holds Try.pinned (OpenSpec.ofChange fnExactRunRingSpec)

/-- ITS FALSE NEIGHBOUR: 'it returns false'. Refute it at one input. -/
def fnExactRunRingWrong : ChangeSpec := { name := "fnExactRunRing", fn := fun _ => fun
  | [d1, d2] => { results := [.lit (.bool false)], args := [d1, d2] }
  | _ => none }
def FnExactRunRingWrongFalsely : Prop := fnExactRunRingRow.holds Try.pinned (OpenSpec.ofChange fnExactRunRingWrong)

/- THE SECOND FORM. 'bulk': how many values and letters a reading holds, each counted each time it is reached (what is shared counts as often as it is met; a slice's spare places count too). A statement '..UptoSaid' is the law's where the arguments, and the package variables that the reading takes, are together of bulk at most 1048576: NARROWER than '..Said'. Prove '..Said' where nothing that the law and all that it calls make is longer than what came in: it says more and counts as full. Else prove '..UptoSaid'. A law counts once. -/
mutual
def uptoBulk {H : Type} : DataW H → Nat
  | .lit (.string bytes) => bytes.length + 1
  | .lit _ => 1
  | .nil => 1
  | .ptr d => uptoBulk d + 1
  | .slice elems spare => uptoBulkAll elems + uptoBulkAll spare + 1
  | .agg parts => uptoBulkAll parts + 1
  | .iface _ d => uptoBulk d + 1
  | .map entries => uptoBulkEntries entries + 1
  | .held _ => 1
def uptoBulkAll {H : Type} : List (DataW H) → Nat
  | [] => 0
  | d :: r => uptoBulk d + uptoBulkAll r
def uptoBulkEntries {H : Type} : List (Lit × DataW H) → Nat
  | [] => 0
  | x :: r => uptoBulkEntry x + uptoBulkEntries r
def uptoBulkEntry {H : Type} : Lit × DataW H → Nat
  | (.string bytes, d) => bytes.length + uptoBulk d + 1
  | (_, d) => uptoBulk d + 1
 end
def uptoSmall : (H : Type) → List (DataW H) → Bool := fun _ ds => decide (uptoBulkAll ds ≤ 1048576)
def OpenSpec.upto (s : _root_.Go.ChangeSpec) : _root_.Go.OpenSpec := { _root_.Go.OpenSpec.ofChange s with cond := some uptoSmall }

/-- 'laws.FnExactEventOk', WHERE WHAT IT READS IS OF BULK AT MOST 1048576: true; the input reads as it did. -/
def fnExactEventOkUptoRow : OpenClaim := { program := "ythihffgmmkhlhaa", sum := "7f251185bff5f17cad0150f535e78897c8d1144f6248a4dd85b777cb31782df3", func := "loop.example/g00250/laws.FnExactEventOk", spec := "fnExactEventOk", apart := false, narrowed := true }
def FnExactEventOkUptoSaid : Prop := fnExactEventOkUptoRow.holds Try.pinned (OpenSpec.upto fnExactEventOkSpec)

/-- 'laws.FnExactRingSum', WHERE WHAT IT READS IS OF BULK AT MOST 1048576: true; the input reads as it did. -/
def fnExactRingSumUptoRow : OpenClaim := { program := "ythihffgmmkhlhaa", sum := "7f251185bff5f17cad0150f535e78897c8d1144f6248a4dd85b777cb31782df3", func := "loop.example/g00250/laws.FnExactRingSum", spec := "fnExactRingSum", apart := false, narrowed := true }
def FnExactRingSumUptoSaid : Prop := fnExactRingSumUptoRow.holds Try.pinned (OpenSpec.upto fnExactRingSumSpec)

/-- 'laws.FnRingNever', WHERE WHAT IT READS IS OF BULK AT MOST 1048576: true; the input reads as it did. -/
def fnRingNeverUptoRow : OpenClaim := { program := "ythihffgmmkhlhaa", sum := "7f251185bff5f17cad0150f535e78897c8d1144f6248a4dd85b777cb31782df3", func := "loop.example/g00250/laws.FnRingNever", spec := "fnRingNever", apart := false, narrowed := true }
def FnRingNeverUptoSaid : Prop := fnRingNeverUptoRow.holds Try.pinned (OpenSpec.upto fnRingNeverSpec)

/-- 'laws.FnRings', WHERE WHAT IT READS IS OF BULK AT MOST 1048576: true; the input reads as it did. -/
def fnRingsUptoRow : OpenClaim := { program := "ythihffgmmkhlhaa", sum := "7f251185bff5f17cad0150f535e78897c8d1144f6248a4dd85b777cb31782df3", func := "loop.example/g00250/laws.FnRings", spec := "fnRings", apart := false, narrowed := true }
def FnRingsUptoSaid : Prop := fnRingsUptoRow.holds Try.pinned (OpenSpec.upto fnRingsSpec)

/-- 'laws.FnExactRingStep', WHERE WHAT IT READS IS OF BULK AT MOST 1048576: true; the input reads as it did. -/
def fnExactRingStepUptoRow : OpenClaim := { program := "ythihffgmmkhlhaa", sum := "7f251185bff5f17cad0150f535e78897c8d1144f6248a4dd85b777cb31782df3", func := "loop.example/g00250/laws.FnExactRingStep", spec := "fnExactRingStep", apart := false, narrowed := true }
def FnExactRingStepUptoSaid : Prop := fnExactRingStepUptoRow.holds Try.pinned (OpenSpec.upto fnExactRingStepSpec)

/-- 'laws.FnRingSteps', WHERE WHAT IT READS IS OF BULK AT MOST 1048576: true; the input reads as it did. -/
def fnRingStepsUptoRow : OpenClaim := { program := "ythihffgmmkhlhaa", sum := "7f251185bff5f17cad0150f535e78897c8d1144f6248a4dd85b777cb31782df3", func := "loop.example/g00250/laws.FnRingSteps", spec := "fnRingSteps", apart := false, narrowed := true }
def FnRingStepsUptoSaid : Prop := fnRingStepsUptoRow.holds Try.pinned (OpenSpec.upto fnRingStepsSpec)

/-- 'laws.FnRingsCalm', WHERE WHAT IT READS IS OF BULK AT MOST 1048576: true; the input reads as it did. -/
def fnRingsCalmUptoRow : OpenClaim := { program := "ythihffgmmkhlhaa", sum := "7f251185bff5f17cad0150f535e78897c8d1144f6248a4dd85b777cb31782df3", func := "loop.example/g00250/laws.FnRingsCalm", spec := "fnRingsCalm", apart := false, narrowed := true }
def FnRingsCalmUptoSaid : Prop := fnRingsCalmUptoRow.holds Try.pinned (OpenSpec.upto fnRingsCalmSpec)

/-- 'laws.FnExactCalmRing', WHERE WHAT IT READS IS OF BULK AT MOST 1048576: true; the input reads as it did. -/
def fnExactCalmRingUptoRow : OpenClaim := { program := "ythihffgmmkhlhaa", sum := "7f251185bff5f17cad0150f535e78897c8d1144f6248a4dd85b777cb31782df3", func := "loop.example/g00250/laws.FnExactCalmRing", spec := "fnExactCalmRing", apart := false, narrowed := true }
def FnExactCalmRingUptoSaid : Prop := fnExactCalmRingUptoRow.holds Try.pinned (OpenSpec.upto fnExactCalmRingSpec)

/-- 'laws.FnExactRunRing', WHERE WHAT IT READS IS OF BULK AT MOST 1048576: true; the input reads as it did. -/
def fnExactRunRingUptoRow : OpenClaim := { program := "ythihffgmmkhlhaa", sum := "7f251185bff5f17cad0150f535e78897c8d1144f6248a4dd85b777cb31782df3", func := "loop.example/g00250/laws.FnExactRunRing", spec := "fnExactRunRing", apart := false, narrowed := true }
def FnExactRunRingUptoSaid : Prop := fnExactRunRingUptoRow.holds Try.pinned (OpenSpec.upto fnExactRunRingSpec)

end Rows
end Go.Proofs.Ythihffgmmkhlhaa
