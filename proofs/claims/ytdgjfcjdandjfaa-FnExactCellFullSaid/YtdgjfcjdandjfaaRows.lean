/-
  No cell of these rows narrows 'for every input' (looked for: loops, veiled, ifaces, maps, wideKeys, modest, calm, conditions, laid).
  DERIVED. THE GIVEN ROWS OF THIS SEAT. 3 by the template 'for every input the law returns true; each argument reads behind the call as it read before'; 0 by the template 'total and deterministic' (their statements: YtdgjfcjdandjfaaTotals.lean).
  GIVEN WITH THE SEED: the statements are not yours to turn. If you find one false, say at which input.
  Laid BY PROGRAM, IN A SANDBOX (cutbox-rows.mjs): the forced cells as the released guide's own fill.sh prints them over the translation 0de694c032c7adbe… (all of the seat's roots in one cut). By AI agents, Wed Nov 11 2026. No macro, syntax, notation, axiom, sorry.
-/
import Derived.Test.YtdgjfcjdandjfaaChecked
import GoSem.Claim
import GoSem.ClaimJoined
import GoSem.ClaimMapViews
import Derived.JoinedTies
import Derived.KernelRfl
namespace Go.Proofs.Ytdgjfcjdandjfaa
/- THE CELL 'sum', in the pinned program and in every row, IS THE sha256 OF THE DUMP (.gsa) THAT YtdgjfcjdandjfaaProg.lean LOADS. Nothing in Lean hashes anything: it is a label: what it is worth is what the hold of that sum in a sandbox is worth. -/
noncomputable def Try.pinned : Pinned := { name := "ytdgjfcjdandjfaa", sum := "0de694c032c7adbe48232b08a8517b009a03352e9a421f8e6961da9c0daaba5c", checked := Try.checked }
namespace Rows
def none {H : Type} : Left H := { results := [], args := [] }

/-- 'laws.FnExactCellFull': WHATEVER THE INPUT: true; the input reads as it did. -/
def fnExactCellFullSpec : ChangeSpec := { name := "fnExactCellFull", fn := fun _ => fun
  | [d] => { results := [.lit (.bool true)], args := [d] }
  | _ => none }
def fnExactCellFullRow : OpenClaim := { program := "ytdgjfcjdandjfaa", sum := "0de694c032c7adbe48232b08a8517b009a03352e9a421f8e6961da9c0daaba5c", func := "loop.example/g00250/laws.FnExactCellFull", spec := "fnExactCellFull", apart := false }
def FnExactCellFullSaid : Prop := fnExactCellFullRow.holds Try.pinned (OpenSpec.ofChange fnExactCellFullSpec)

/-- ITS FALSE NEIGHBOUR: 'it returns false'. Refute it at one input. -/
def fnExactCellFullWrong : ChangeSpec := { name := "fnExactCellFull", fn := fun _ => fun
  | [d] => { results := [.lit (.bool false)], args := [d] }
  | _ => none }
def FnExactCellFullWrongFalsely : Prop := fnExactCellFullRow.holds Try.pinned (OpenSpec.ofChange fnExactCellFullWrong)

/-- 'laws.FnExactDisksOf': WHATEVER THE INPUT: true; the input reads as it did. -/
def fnExactDisksOfSpec : ChangeSpec := { name := "fnExactDisksOf", fn := fun _ => fun
  | [d1, d2] => { results := [.lit (.bool true)], args := [d1, d2] }
  | _ => none }
def fnExactDisksOfRow : OpenClaim := { program := "ytdgjfcjdandjfaa", sum := "0de694c032c7adbe48232b08a8517b009a03352e9a421f8e6961da9c0daaba5c", func := "loop.example/g00250/laws.FnExactDisksOf", spec := "fnExactDisksOf", inPlace := ["internal/abi.NoEscape", "slices.overlaps[loop.example/g00250/impl.File]"], unfollowed := true, recurses := true, apart := false }
def FnExactDisksOfSaid : Prop := fnExactDisksOfRow.holds Try.pinned (OpenSpec.ofChange fnExactDisksOfSpec)

/-- ITS FALSE NEIGHBOUR: 'it returns false'. Refute it at one input. -/
def fnExactDisksOfWrong : ChangeSpec := { name := "fnExactDisksOf", fn := fun _ => fun
  | [d1, d2] => { results := [.lit (.bool false)], args := [d1, d2] }
  | _ => none }
def FnExactDisksOfWrongFalsely : Prop := fnExactDisksOfRow.holds Try.pinned (OpenSpec.ofChange fnExactDisksOfWrong)

/-- 'laws.FnExactGathered': WHATEVER THE INPUT: true; the input reads as it did. -/
def fnExactGatheredSpec : ChangeSpec := { name := "fnExactGathered", fn := fun _ => fun
  | [d] => { results := [.lit (.bool true)], args := [d] }
  | _ => none }
def fnExactGatheredRow : OpenClaim := { program := "ytdgjfcjdandjfaa", sum := "0de694c032c7adbe48232b08a8517b009a03352e9a421f8e6961da9c0daaba5c", func := "loop.example/g00250/laws.FnExactGathered", spec := "fnExactGathered", inPlace := ["slices.overlaps[loop.example/g00250/impl.Edge]"], unfollowed := true, recurses := true, apart := false }
def FnExactGatheredSaid : Prop := fnExactGatheredRow.holds Try.pinned (OpenSpec.ofChange fnExactGatheredSpec)

/-- ITS FALSE NEIGHBOUR: 'it returns false'. Refute it at one input. -/
def fnExactGatheredWrong : ChangeSpec := { name := "fnExactGathered", fn := fun _ => fun
  | [d] => { results := [.lit (.bool false)], args := [d] }
  | _ => none }
def FnExactGatheredWrongFalsely : Prop := fnExactGatheredRow.holds Try.pinned (OpenSpec.ofChange fnExactGatheredWrong)

/- THE SECOND FORM. 'bulk': how many values and letters a reading holds, each counted each time it is reached (what is shared counts as often as it is met; a slice's spare places count too). A statement '..UptoSaid' is the law's where the arguments, and the package variables that the reading takes, are together of bulk at most 1048576: NARROWER than '..Said'. Prove '..Said' where nothing that the law and all that it calls make is longer than what came in: it says more and counts as full. Else prove '..UptoSaid'. A law counts once. -/
mutual
def uptoBulk {H : Type} : DataW H → Nat
  | .lit (.string bytes) => bytes.length + 1
  | .lit _ => 1
  | .nil => 1
  | .ptr d => uptoBulk d + 1
  | .slice elems spare => uptoBulkAll elems + uptoBulkAll spare + 1
  | .agg parts => uptoBulkAll parts + 1
  | .iface _ d => uptoBulk d + 1
  | .map entries => uptoBulkEntries entries + 1
  | .held _ => 1
def uptoBulkAll {H : Type} : List (DataW H) → Nat
  | [] => 0
  | d :: r => uptoBulk d + uptoBulkAll r
def uptoBulkEntries {H : Type} : List (Lit × DataW H) → Nat
  | [] => 0
  | x :: r => uptoBulkEntry x + uptoBulkEntries r
def uptoBulkEntry {H : Type} : Lit × DataW H → Nat
  | (.string bytes, d) => bytes.length + uptoBulk d + 1
  | (_, d) => uptoBulk d + 1
 end
def uptoSmall : (H : Type) → List (DataW H) → Bool := fun _ ds => decide (uptoBulkAll ds ≤ 1048576)
def OpenSpec.upto (s : _root_.Go.ChangeSpec) : _root_.Go.OpenSpec := { _root_.Go.OpenSpec.ofChange s with cond := some uptoSmall }

/-- 'laws.FnExactCellFull', WHERE WHAT IT READS IS OF BULK AT MOST 1048576: true; the input reads as it did. -/
def fnExactCellFullUptoRow : OpenClaim := { program := "ytdgjfcjdandjfaa", sum := "0de694c032c7adbe48232b08a8517b009a03352e9a421f8e6961da9c0daaba5c", func := "loop.example/g00250/laws.FnExactCellFull", spec := "fnExactCellFull", apart := false, narrowed := true }
def FnExactCellFullUptoSaid : Prop := fnExactCellFullUptoRow.holds Try.pinned (OpenSpec.upto fnExactCellFullSpec)

/-- 'laws.FnExactDisksOf', WHERE WHAT IT READS IS OF BULK AT MOST 1048576: true; the input reads as it did. -/
def fnExactDisksOfUptoRow : OpenClaim := { program := "ytdgjfcjdandjfaa", sum := "0de694c032c7adbe48232b08a8517b009a03352e9a421f8e6961da9c0daaba5c", func := "loop.example/g00250/laws.FnExactDisksOf", spec := "fnExactDisksOf", inPlace := ["internal/abi.NoEscape", "slices.overlaps[loop.example/g00250/impl.File]"], unfollowed := true, recurses := true, apart := false, narrowed := true }
def FnExactDisksOfUptoSaid : Prop := fnExactDisksOfUptoRow.holds Try.pinned (OpenSpec.upto fnExactDisksOfSpec)

/-- 'laws.FnExactGathered', WHERE WHAT IT READS IS OF BULK AT MOST 1048576: true; the input reads as it did. -/
def fnExactGatheredUptoRow : OpenClaim := { program := "ytdgjfcjdandjfaa", sum := "0de694c032c7adbe48232b08a8517b009a03352e9a421f8e6961da9c0daaba5c", func := "loop.example/g00250/laws.FnExactGathered", spec := "fnExactGathered", inPlace := ["slices.overlaps[loop.example/g00250/impl.Edge]"], unfollowed := true, recurses := true, apart := false, narrowed := true }
def FnExactGatheredUptoSaid : Prop := fnExactGatheredUptoRow.holds Try.pinned (OpenSpec.upto fnExactGatheredSpec)

end Rows
end Go.Proofs.Ytdgjfcjdandjfaa
