/-
  No cell of these rows narrows 'for every input' (looked for: loops, veiled, ifaces, maps, wideKeys, modest, calm, conditions, laid).
  DERIVED. THE GIVEN ROWS OF THIS SEAT. 4 by the template 'for every input the law returns true; each argument reads behind the call as it read before'; 0 by the template 'total and deterministic' (their statements: YtflfohphebmemaaGreatTotals.lean).
  GIVEN WITH THE SEED: the statements are not yours to turn. If you find one false, say at which input.
  Laid BY PROGRAM, IN A SANDBOX (cutbox-rows.mjs): the forced cells as the released guide's own fill.sh prints them over the translation c41643468c9cd5f6… (all of the seat's roots in one cut). By AI agents, Wed Nov 11 2026. No macro, syntax, notation, axiom, sorry.
-/
import Derived.Test.YtflfohphebmemaaGreatChecked
import GoSem.Claim
import GoSem.ClaimJoined
import GoSem.ClaimMapViews
import Derived.JoinedTies
import Derived.KernelRfl
namespace Go.Proofs.YtflfohphebmemaaGreat
/- THE CELL 'sum', in the pinned program and in every row, IS THE sha256 OF THE DUMP (.gsa) THAT YtflfohphebmemaaGreatProg.lean LOADS. Nothing in Lean hashes anything: it is a label: what it is worth is what the hold of that sum in a sandbox is worth. -/
noncomputable def Tryz.pinned : Pinned := { name := "ytflfohphebmemaagreat", sum := "c41643468c9cd5f6b6725b36c3e8ca20b3dfdabac522b98e21320a8fa5170a8f", checked := Tryz.checked }
namespace Rows
def none {H : Type} : Left H := { results := [], args := [] }

/-- 'laws.FnExactPutMails': WHATEVER THE INPUT: true; the input reads as it did. -/
def fnExactPutMailsSpec : ChangeSpec := { name := "fnExactPutMails", fn := fun _ => fun
  | [d1, d2] => { results := [.lit (.bool true)], args := [d1, d2] }
  | _ => none }
def fnExactPutMailsRow : OpenClaim := { program := "ytflfohphebmemaagreat", sum := "c41643468c9cd5f6b6725b36c3e8ca20b3dfdabac522b98e21320a8fa5170a8f", func := "loop.example/g00250/laws.FnExactPutMails", spec := "fnExactPutMails", inPlace := ["internal/abi.NoEscape"], apart := false }
def FnExactPutMailsSaid : Prop := fnExactPutMailsRow.holds Tryz.pinned (OpenSpec.ofChange fnExactPutMailsSpec)

/-- ITS FALSE NEIGHBOUR: 'it returns false'. Refute it at one input. -/
def fnExactPutMailsWrong : ChangeSpec := { name := "fnExactPutMails", fn := fun _ => fun
  | [d1, d2] => { results := [.lit (.bool false)], args := [d1, d2] }
  | _ => none }
def FnExactPutMailsWrongFalsely : Prop := fnExactPutMailsRow.holds Tryz.pinned (OpenSpec.ofChange fnExactPutMailsWrong)

/-- 'laws.FnExactRowsTo': WHATEVER THE INPUT: true; the input reads as it did. -/
def fnExactRowsToSpec : ChangeSpec := { name := "fnExactRowsTo", fn := fun _ => fun
  | [d1, d2, d3, d4, d5] => { results := [.lit (.bool true)], args := [d1, d2, d3, d4, d5] }
  | _ => none }
def fnExactRowsToRow : OpenClaim := { program := "ytflfohphebmemaagreat", sum := "c41643468c9cd5f6b6725b36c3e8ca20b3dfdabac522b98e21320a8fa5170a8f", func := "loop.example/g00250/laws.FnExactRowsTo", spec := "fnExactRowsTo", inPlace := ["slices.overlaps[loop.example/g00250/impl.Item]"], unfollowed := true, recurses := true, apart := false }
def FnExactRowsToSaid : Prop := fnExactRowsToRow.holds Tryz.pinned (OpenSpec.ofChange fnExactRowsToSpec)

/-- ITS FALSE NEIGHBOUR: 'it returns false'. Refute it at one input. -/
def fnExactRowsToWrong : ChangeSpec := { name := "fnExactRowsTo", fn := fun _ => fun
  | [d1, d2, d3, d4, d5] => { results := [.lit (.bool false)], args := [d1, d2, d3, d4, d5] }
  | _ => none }
def FnExactRowsToWrongFalsely : Prop := fnExactRowsToRow.holds Tryz.pinned (OpenSpec.ofChange fnExactRowsToWrong)

/-- 'laws.FnExactCellNew': WHATEVER THE INPUT: true; the input reads as it did. -/
def fnExactCellNewSpec : ChangeSpec := { name := "fnExactCellNew", fn := fun _ => fun
  | [d1, d2, d3, d4] => { results := [.lit (.bool true)], args := [d1, d2, d3, d4] }
  | _ => none }
def fnExactCellNewRow : OpenClaim := { program := "ytflfohphebmemaagreat", sum := "c41643468c9cd5f6b6725b36c3e8ca20b3dfdabac522b98e21320a8fa5170a8f", func := "loop.example/g00250/laws.FnExactCellNew", spec := "fnExactCellNew", unfollowed := true, recurses := true, apart := false }
def FnExactCellNewSaid : Prop := fnExactCellNewRow.holds Tryz.pinned (OpenSpec.ofChange fnExactCellNewSpec)

/-- ITS FALSE NEIGHBOUR: 'it returns false'. Refute it at one input. -/
def fnExactCellNewWrong : ChangeSpec := { name := "fnExactCellNew", fn := fun _ => fun
  | [d1, d2, d3, d4] => { results := [.lit (.bool false)], args := [d1, d2, d3, d4] }
  | _ => none }
def FnExactCellNewWrongFalsely : Prop := fnExactCellNewRow.holds Tryz.pinned (OpenSpec.ofChange fnExactCellNewWrong)

/-- 'laws.FnExactWorkPairs': WHATEVER THE INPUT: true; the input reads as it did. -/
def fnExactWorkPairsSpec : ChangeSpec := { name := "fnExactWorkPairs", fn := fun _ => fun
  | [d1, d2] => { results := [.lit (.bool true)], args := [d1, d2] }
  | _ => none }
def fnExactWorkPairsRow : OpenClaim := { program := "ytflfohphebmemaagreat", sum := "c41643468c9cd5f6b6725b36c3e8ca20b3dfdabac522b98e21320a8fa5170a8f", func := "loop.example/g00250/laws.FnExactWorkPairs", spec := "fnExactWorkPairs", unfollowed := true, recurses := true, apart := false }
def FnExactWorkPairsSaid : Prop := fnExactWorkPairsRow.holds Tryz.pinned (OpenSpec.ofChange fnExactWorkPairsSpec)

/-- ITS FALSE NEIGHBOUR: 'it returns false'. Refute it at one input. -/
def fnExactWorkPairsWrong : ChangeSpec := { name := "fnExactWorkPairs", fn := fun _ => fun
  | [d1, d2] => { results := [.lit (.bool false)], args := [d1, d2] }
  | _ => none }
def FnExactWorkPairsWrongFalsely : Prop := fnExactWorkPairsRow.holds Tryz.pinned (OpenSpec.ofChange fnExactWorkPairsWrong)

/- THE SECOND FORM. 'bulk': how many values and letters a reading holds, each counted each time it is reached (what is shared counts as often as it is met; a slice's spare places count too). A statement '..UptoSaid' is the law's where the arguments, and the package variables that the reading takes, are together of bulk at most 1048576: NARROWER than '..Said'. Prove '..Said' where nothing that the law and all that it calls make is longer than what came in: it says more and counts as full. Else prove '..UptoSaid'. A law counts once. -/
mutual
def uptoBulk {H : Type} : DataW H → Nat
  | .lit (.string bytes) => bytes.length + 1
  | .lit _ => 1
  | .nil => 1
  | .ptr d => uptoBulk d + 1
  | .slice elems spare => uptoBulkAll elems + uptoBulkAll spare + 1
  | .agg parts => uptoBulkAll parts + 1
  | .iface _ d => uptoBulk d + 1
  | .map entries => uptoBulkEntries entries + 1
  | .held _ => 1
def uptoBulkAll {H : Type} : List (DataW H) → Nat
  | [] => 0
  | d :: r => uptoBulk d + uptoBulkAll r
def uptoBulkEntries {H : Type} : List (Lit × DataW H) → Nat
  | [] => 0
  | x :: r => uptoBulkEntry x + uptoBulkEntries r
def uptoBulkEntry {H : Type} : Lit × DataW H → Nat
  | (.string bytes, d) => bytes.length + uptoBulk d + 1
  | (_, d) => uptoBulk d + 1
 end
def uptoSmall : (H : Type) → List (DataW H) → Bool := fun _ ds => decide (uptoBulkAll ds ≤ 1048576)
def OpenSpec.upto (s : _root_.Go.ChangeSpec) : _root_.Go.OpenSpec := { _root_.Go.OpenSpec.ofChange s with cond := some uptoSmall }

/-- 'laws.FnExactPutMails', WHERE WHAT IT READS IS OF BULK AT MOST 1048576: true; the input reads as it did. -/
def fnExactPutMailsUptoRow : OpenClaim := { program := "ytflfohphebmemaagreat", sum := "c41643468c9cd5f6b6725b36c3e8ca20b3dfdabac522b98e21320a8fa5170a8f", func := "loop.example/g00250/laws.FnExactPutMails", spec := "fnExactPutMails", inPlace := ["internal/abi.NoEscape"], apart := false, narrowed := true }
def FnExactPutMailsUptoSaid : Prop := fnExactPutMailsUptoRow.holds Tryz.pinned (OpenSpec.upto fnExactPutMailsSpec)

/-- 'laws.FnExactRowsTo', WHERE WHAT IT READS IS OF BULK AT MOST 1048576: true; the input reads as it did. -/
def fnExactRowsToUptoRow : OpenClaim := { program := "ytflfohphebmemaagreat", sum := "c41643468c9cd5f6b6725b36c3e8ca20b3dfdabac522b98e21320a8fa5170a8f", func := "loop.example/g00250/laws.FnExactRowsTo", spec := "fnExactRowsTo", inPlace := ["slices.overlaps[loop.example/g00250/impl.Item]"], unfollowed := true, recurses := true, apart := false, narrowed := true }
def FnExactRowsToUptoSaid : Prop := fnExactRowsToUptoRow.holds Tryz.pinned (OpenSpec.upto fnExactRowsToSpec)

/-- 'laws.FnExactCellNew', WHERE WHAT IT READS IS OF BULK AT MOST 1048576: true; the input reads as it did. -/
def fnExactCellNewUptoRow : OpenClaim := { program := "ytflfohphebmemaagreat", sum := "c41643468c9cd5f6b6725b36c3e8ca20b3dfdabac522b98e21320a8fa5170a8f", func := "loop.example/g00250/laws.FnExactCellNew", spec := "fnExactCellNew", unfollowed := true, recurses := true, apart := false, narrowed := true }
def FnExactCellNewUptoSaid : Prop := fnExactCellNewUptoRow.holds Tryz.pinned (OpenSpec.upto fnExactCellNewSpec)

/-- 'laws.FnExactWorkPairs', WHERE WHAT IT READS IS OF BULK AT MOST 1048576: true; the input reads as it did. -/
def fnExactWorkPairsUptoRow : OpenClaim := { program := "ytflfohphebmemaagreat", sum := "c41643468c9cd5f6b6725b36c3e8ca20b3dfdabac522b98e21320a8fa5170a8f", func := "loop.example/g00250/laws.FnExactWorkPairs", spec := "fnExactWorkPairs", unfollowed := true, recurses := true, apart := false, narrowed := true }
def FnExactWorkPairsUptoSaid : Prop := fnExactWorkPairsUptoRow.holds Tryz.pinned (OpenSpec.upto fnExactWorkPairsSpec)

end Rows
end Go.Proofs.YtflfohphebmemaaGreat
