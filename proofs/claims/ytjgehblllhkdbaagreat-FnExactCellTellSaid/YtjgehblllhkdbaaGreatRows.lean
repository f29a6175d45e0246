/-
  No cell of these rows narrows 'for every input' (looked for: loops, veiled, ifaces, maps, wideKeys, modest, calm, conditions, laid).
  DERIVED. THE GIVEN ROWS OF THIS SEAT. 6 by the template 'for every input the law returns true; each argument reads behind the call as it read before'; 0 by the template 'total and deterministic' (their statements: YtjgehblllhkdbaaGreatTotals.lean).
  GIVEN WITH THE SEED: the statements are not yours to turn. If you find one false, say at which input.
  Laid BY PROGRAM, IN A SANDBOX (cutbox-rows.mjs): the forced cells as the released guide's own fill.sh prints them over the translation ff52b8e99eaf08b3… (all of the seat's roots in one cut). By AI agents, Wed Nov 11 2026. No macro, syntax, notation, axiom, sorry.
-/
import Derived.Test.YtjgehblllhkdbaaGreatChecked
import GoSem.Claim
import GoSem.ClaimJoined
import GoSem.ClaimMapViews
import Derived.JoinedTies
import Derived.KernelRfl
namespace Go.Proofs.YtjgehblllhkdbaaGreat
/- THE CELL 'sum', in the pinned program and in every row, IS THE sha256 OF THE DUMP (.gsa) THAT YtjgehblllhkdbaaGreatProg.lean LOADS. Nothing in Lean hashes anything: it is a label: what it is worth is what the hold of that sum in a sandbox is worth. -/
noncomputable def Tryz.pinned : Pinned := { name := "ytjgehblllhkdbaagreat", sum := "ff52b8e99eaf08b3bb8f331bc43b4c2b46dbc7761e42b005efa0855952004f8d", checked := Tryz.checked }
namespace Rows
def none {H : Type} : Left H := { results := [], args := [] }

/-- 'laws.FnExactRowsTo': WHATEVER THE INPUT: true; the input reads as it did. -/
def fnExactRowsToSpec : ChangeSpec := { name := "fnExactRowsTo", fn := fun _ => fun
  | [d1, d2, d3, d4, d5] => { results := [.lit (.bool true)], args := [d1, d2, d3, d4, d5] }
  | _ => none }
def fnExactRowsToRow : OpenClaim := { program := "ytjgehblllhkdbaagreat", sum := "ff52b8e99eaf08b3bb8f331bc43b4c2b46dbc7761e42b005efa0855952004f8d", func := "loop.example/g00250/laws.FnExactRowsTo", spec := "fnExactRowsTo", inPlace := ["slices.overlaps[loop.example/g00250/impl.Item]"], unfollowed := true, recurses := true, apart := false }
def FnExactRowsToSaid : Prop := fnExactRowsToRow.holds Tryz.pinned (OpenSpec.ofChange fnExactRowsToSpec)

/-- ITS FALSE NEIGHBOUR: 'it returns false'. Refute it at one input. -/
def fnExactRowsToWrong : ChangeSpec := { name := "fnExactRowsTo", fn := fun _ => fun
  | [d1, d2, d3, d4, d5] => { results := [.lit (.bool false)], args := [d1, d2, d3, d4, d5] }
  | _ => none }
def FnExactRowsToWrongFalsely : Prop := fnExactRowsToRow.holds Tryz.pinned (OpenSpec.ofChange fnExactRowsToWrong)

/-- 'laws.FnExactWorkPairs': WHATEVER THE INPUT: true; the input reads as it did. -/
def fnExactWorkPairsSpec : ChangeSpec := { name := "fnExactWorkPairs", fn := fun _ => fun
  | [d1, d2] => { results := [.lit (.bool true)], args := [d1, d2] }
  | _ => none }
def fnExactWorkPairsRow : OpenClaim := { program := "ytjgehblllhkdbaagreat", sum := "ff52b8e99eaf08b3bb8f331bc43b4c2b46dbc7761e42b005efa0855952004f8d", func := "loop.example/g00250/laws.FnExactWorkPairs", spec := "fnExactWorkPairs", unfollowed := true, recurses := true, apart := false }
def FnExactWorkPairsSaid : Prop := fnExactWorkPairsRow.holds Tryz.pinned (OpenSpec.ofChange fnExactWorkPairsSpec)

/-- ITS FALSE NEIGHBOUR: 'it returns false'. Refute it at one input. -/
def fnExactWorkPairsWrong : ChangeSpec := { name := "fnExactWorkPairs", fn := fun _ => fun
  | [d1, d2] => { results := [.lit (.bool false)], args := [d1, d2] }
  | _ => none }
def FnExactWorkPairsWrongFalsely : Prop := fnExactWorkPairsRow.holds Tryz.pinned (OpenSpec.ofChange fnExactWorkPairsWrong)

/-- 'laws.FnExactWalksRight': WHATEVER THE INPUT: true; the input reads as it did. -/
def fnExactWalksRightSpec : ChangeSpec := { name := "fnExactWalksRight", fn := fun _ => fun
  | [d1, d2] => { results := [.lit (.bool true)], args := [d1, d2] }
  | _ => none }
def fnExactWalksRightRow : OpenClaim := { program := "ytjgehblllhkdbaagreat", sum := "ff52b8e99eaf08b3bb8f331bc43b4c2b46dbc7761e42b005efa0855952004f8d", func := "loop.example/g00250/laws.FnExactWalksRight", spec := "fnExactWalksRight", unfollowed := true, recurses := true, apart := false }
def FnExactWalksRightSaid : Prop := fnExactWalksRightRow.holds Tryz.pinned (OpenSpec.ofChange fnExactWalksRightSpec)

/-- ITS FALSE NEIGHBOUR: 'it returns false'. Refute it at one input. -/
def fnExactWalksRightWrong : ChangeSpec := { name := "fnExactWalksRight", fn := fun _ => fun
  | [d1, d2] => { results := [.lit (.bool false)], args := [d1, d2] }
  | _ => none }
def FnExactWalksRightWrongFalsely : Prop := fnExactWalksRightRow.holds Tryz.pinned (OpenSpec.ofChange fnExactWalksRightWrong)

/-- 'laws.FnExactEndsRight': WHATEVER THE INPUT: true; the input reads as it did. -/
def fnExactEndsRightSpec : ChangeSpec := { name := "fnExactEndsRight", fn := fun _ => fun
  | [d1, d2] => { results := [.lit (.bool true)], args := [d1, d2] }
  | _ => none }
def fnExactEndsRightRow : OpenClaim := { program := "ytjgehblllhkdbaagreat", sum := "ff52b8e99eaf08b3bb8f331bc43b4c2b46dbc7761e42b005efa0855952004f8d", func := "loop.example/g00250/laws.FnExactEndsRight", spec := "fnExactEndsRight", unfollowed := true, recurses := true, apart := false }
def FnExactEndsRightSaid : Prop := fnExactEndsRightRow.holds Tryz.pinned (OpenSpec.ofChange fnExactEndsRightSpec)

/-- ITS FALSE NEIGHBOUR: 'it returns false'. Refute it at one input. -/
def fnExactEndsRightWrong : ChangeSpec := { name := "fnExactEndsRight", fn := fun _ => fun
  | [d1, d2] => { results := [.lit (.bool false)], args := [d1, d2] }
  | _ => none }
def FnExactEndsRightWrongFalsely : Prop := fnExactEndsRightRow.holds Tryz.pinned (OpenSpec.ofChange fnExactEndsRightWrong)

/-- 'laws.FnExactCellTell': WHATEVER THE INPUT: true; the input reads as it did. -/
def fnExactCellTellSpec : ChangeSpec := { name := "fnExactCellTell", fn := fun _ => fun
  | [d] => { results := [.lit (.bool true)], args := [d] }
  | _ => none }
def fnExactCellTellRow : OpenClaim := { program := "ytjgehblllhkdbaagreat", sum := "ff52b8e99eaf08b3bb8f331bc43b4c2b46dbc7761e42b005efa0855952004f8d", func := "loop.example/g00250/laws.FnExactCellTell", spec := "fnExactCellTell", inPlace := ["slices.overlaps[loop.example/g00250/impl.Item]"], unfollowed := true, recurses := true, apart := false }
def FnExactCellTellSaid : Prop := fnExactCellTellRow.holds Tryz.pinned (OpenSpec.ofChange fnExactCellTellSpec)

/-- ITS FALSE NEIGHBOUR: 'it returns false'. Refute it at one input. -/
def fnExactCellTellWrong : ChangeSpec := { name := "fnExactCellTell", fn := fun _ => fun
  | [d] => { results := [.lit (.bool false)], args := [d] }
  | _ => none }
def FnExactCellTellWrongFalsely : Prop := fnExactCellTellRow.holds Tryz.pinned (OpenSpec.ofChange fnExactCellTellWrong)

/-- 'laws.FnGathers': WHATEVER THE INPUT: true; the input reads as it did. -/
def fnGathersSpec : ChangeSpec := { name := "fnGathers", fn := fun _ => fun
  | [d] => { results := [.lit (.bool true)], args := [d] }
  | _ => none }
def fnGathersRow : OpenClaim := { program := "ytjgehblllhkdbaagreat", sum := "ff52b8e99eaf08b3bb8f331bc43b4c2b46dbc7761e42b005efa0855952004f8d", func := "loop.example/g00250/laws.FnGathers", spec := "fnGathers", inPlace := ["internal/abi.NoEscape", "slices.overlaps[loop.example/g00250/impl.File]", "slices.overlaps[loop.example/g00250/impl.Edge]"], unfollowed := true, recurses := true, apart := false }
def FnGathersSaid : Prop := fnGathersRow.holds Tryz.pinned (OpenSpec.ofChange fnGathersSpec)

/-- ITS FALSE NEIGHBOUR: 'it returns false'. Refute it at one input. -/
def fnGathersWrong : ChangeSpec := { name := "fnGathers", fn := fun _ => fun
  | [d] => { results := [.lit (.bool false)], args := [d] }
  | _ => none }
def FnGathersWrongFalsely : Prop := fnGathersRow.holds Tryz.pinned (OpenSpec.ofChange fnGathersWrong)

/- THE SECOND FORM. 'bulk': how many values and letters a reading holds, each counted each time it is reached (what is shared counts as often as it is met; a slice's spare places count too). A statement '..UptoSaid' is the law's where the arguments, and the package variables that the reading takes, are together of bulk at most 1048576: NARROWER than '..Said'. Prove '..Said' where nothing that the law and all that it calls make is longer than what came in: it says more and counts as full. Else prove '..UptoSaid'. A law counts once. -/
mutual
def uptoBulk {H : Type} : DataW H → Nat
  | .lit (.string bytes) => bytes.length + 1
  | .lit _ => 1
  | .nil => 1
  | .ptr d => uptoBulk d + 1
  | .slice elems spare => uptoBulkAll elems + uptoBulkAll spare + 1
  | .agg parts => uptoBulkAll parts + 1
  | .iface _ d => uptoBulk d + 1
  | .map entries => uptoBulkEntries entries + 1
  | .held _ => 1
def uptoBulkAll {H : Type} : List (DataW H) → Nat
  | [] => 0
  | d :: r => uptoBulk d + uptoBulkAll r
def uptoBulkEntries {H : Type} : List (Lit × DataW H) → Nat
  | [] => 0
  | x :: r => uptoBulkEntry x + uptoBulkEntries r
def uptoBulkEntry {H : Type} : Lit × DataW H → Nat
  | (.string bytes, d) => bytes.length + uptoBulk d + 1
  | (_, d) => uptoBulk d + 1
 end
def uptoSmall : (H : Type) → List (DataW H) → Bool := fun _ ds => decide (uptoBulkAll ds ≤ 1048576)
def OpenSpec.upto (s : _root_.Go.ChangeSpec) : _root_.Go.OpenSpec := { _root_.Go.OpenSpec.ofChange s with cond := some uptoSmall }

/-- 'laws.FnExactRowsTo', WHERE WHAT IT READS IS OF BULK AT MOST 1048576: true; the input reads as it did. -/
def fnExactRowsToUptoRow : OpenClaim := { program := "ytjgehblllhkdbaagreat", sum := "ff52b8e99eaf08b3bb8f331bc43b4c2b46dbc7761e42b005efa0855952004f8d", func := "loop.example/g00250/laws.FnExactRowsTo", spec := "fnExactRowsTo", inPlace := ["slices.overlaps[loop.example/g00250/impl.Item]"], unfollowed := true, recurses := true, apart := false, narrowed := true }
def FnExactRowsToUptoSaid : Prop := fnExactRowsToUptoRow.holds Tryz.pinned (OpenSpec.upto fnExactRowsToSpec)

/-- 'laws.FnExactWorkPairs', WHERE WHAT IT READS IS OF BULK AT MOST 1048576: true; the input reads as it did. -/
def fnExactWorkPairsUptoRow : OpenClaim := { program := "ytjgehblllhkdbaagreat", sum := "ff52b8e99eaf08b3bb8f331bc43b4c2b46dbc7761e42b005efa0855952004f8d", func := "loop.example/g00250/laws.FnExactWorkPairs", spec := "fnExactWorkPairs", unfollowed := true, recurses := true, apart := false, narrowed := true }
def FnExactWorkPairsUptoSaid : Prop := fnExactWorkPairsUptoRow.holds Tryz.pinned (OpenSpec.upto fnExactWorkPairsSpec)

/-- 'laws.FnExactWalksRight', WHERE WHAT IT READS IS OF BULK AT MOST 1048576: true; the input reads as it did. -/
def fnExactWalksRightUptoRow : OpenClaim := { program := "ytjgehblllhkdbaagreat", sum := "ff52b8e99eaf08b3bb8f331bc43b4c2b46dbc7761e42b005efa0855952004f8d", func := "loop.example/g00250/laws.FnExactWalksRight", spec := "fnExactWalksRight", unfollowed := true, recurses := true, apart := false, narrowed := true }
def FnExactWalksRightUptoSaid : Prop := fnExactWalksRightUptoRow.holds Tryz.pinned (OpenSpec.upto fnExactWalksRightSpec)

/-- 'laws.FnExactEndsRight', WHERE WHAT IT READS IS OF BULK AT MOST 1048576: true; the input reads as it did. -/
def fnExactEndsRightUptoRow : OpenClaim := { program := "ytjgehblllhkdbaagreat", sum := "ff52b8e99eaf08b3bb8f331bc43b4c2b46dbc7761e42b005efa0855952004f8d", func := "loop.example/g00250/laws.FnExactEndsRight", spec := "fnExactEndsRight", unfollowed := true, recurses := true, apart := false, narrowed := true }
def FnExactEndsRightUptoSaid : Prop := fnExactEndsRightUptoRow.holds Tryz.pinned (OpenSpec.upto fnExactEndsRightSpec)

/-- 'laws.FnExactCellTell', WHERE WHAT IT READS IS OF BULK AT MOST 1048576: true; the input reads as it did. -/
def fnExactCellTellUptoRow : OpenClaim := { program := "ytjgehblllhkdbaagreat", sum := "ff52b8e99eaf08b3bb8f331bc43b4c2b46dbc7761e42b005efa0855952004f8d", func := "loop.example/g00250/laws.FnExactCellTell", spec := "fnExactCellTell", inPlace := ["slices.overlaps[loop.example/g00250/impl.Item]"], unfollowed := true, recurses := true, apart := false, narrowed := true }
def FnExactCellTellUptoSaid : Prop := fnExactCellTellUptoRow.holds Tryz.pinned (OpenSpec.upto fnExactCellTellSpec)

/-- 'laws.FnGathers', WHERE WHAT IT READS IS OF BULK AT MOST 1048576: true; the input reads as it did. -/
def fnGathersUptoRow : OpenClaim := { program := "ytjgehblllhkdbaagreat", sum := "ff52b8e99eaf08b3bb8f331bc43b4c2b46dbc7761e42b005efa0855952004f8d", func := "loop.example/g00250/laws.FnGathers", spec := "fnGathers", inPlace := ["internal/abi.NoEscape", "slices.overlaps[loop.example/g00250/impl.File]", "slices.overlaps[loop.example/g00250/impl.Edge]"], unfollowed := true, recurses := true, apart := false, narrowed := true }
def FnGathersUptoSaid : Prop := fnGathersUptoRow.holds Tryz.pinned (OpenSpec.upto fnGathersSpec)

end Rows
end Go.Proofs.YtjgehblllhkdbaaGreat
