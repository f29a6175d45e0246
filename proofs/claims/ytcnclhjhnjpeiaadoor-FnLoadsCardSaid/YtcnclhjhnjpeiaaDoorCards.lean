/-
  DERIVED. GIVEN WITH THE SEED: THE CARDS: each row of YtcnclhjhnjpeiaaDoorRows.lean that lists a variable, with what it lists TIED to the program's text (the seventh form; the later family's looks); each row that meets fmt, with fmt's text TOLD by the authors' own Lean function (tested against real Go, not proved from fmt's source: count such statements apart). THE CARD IS WHAT COUNTS. Prove the row's statement (the work); the ties are given (YtcnclhjhnjpeiaaDoorTie.lean); close each card by the builder's one call (the guide's Derived/Test/ToyasCard.lean, 'card_holds'). Laid BY PROGRAM, IN A SANDBOX (cutbox-door.mjs). By AI agents, Wed Nov 11 2026. No macro, syntax, notation, axiom, sorry.
-/
import Derived.Test.YtcnclhjhnjpeiaaDoorRows
import GoSem.ClaimSeven
namespace Go.Proofs.YtcnclhjhnjpeiaaDoor
namespace Rows

/-- THE TIED CARD OF 'laws.FnExactShowGraph'. -/
def fnExactShowGraphCard : Claim7 := { stood := { row := fnExactShowGraphRow, standIns := [], harness := (true, "68ede35ad842d83877ba65cc26640d9db98dbe42465f4c9c3d7995dd6c6393be"), looks := false }, kinds := [], alts := [], laidByText := true, laidKinds := [.data, .data, .data], laidTests := true, laidLooks := .later }
def FnExactShowGraphCardSaid : Prop := Claim7.holds Tryd.pinned (.plain (OpenSpec.ofChange fnExactShowGraphSpec)) fnExactShowGraphCard

/-- THE TIED CARD OF 'laws.FnExactLoadGraph'. -/
def fnExactLoadGraphCard : Claim7 := { stood := { row := fnExactLoadGraphRow, standIns := [], harness := (true, "68ede35ad842d83877ba65cc26640d9db98dbe42465f4c9c3d7995dd6c6393be"), looks := false }, kinds := [], alts := [], laidByText := true, laidKinds := [.data, .data, .data, .data, .pinned], laidTests := true, laidLooks := .later }
def FnExactLoadGraphCardSaid : Prop := Claim7.holds Tryd.pinned (.plain (OpenSpec.ofChange fnExactLoadGraphSpec)) fnExactLoadGraphCard

/-- THE TIED CARD OF 'laws.FnLoads'. -/
def fnLoadsCard : Claim7 := { stood := { row := fnLoadsRow, standIns := [], harness := (true, "68ede35ad842d83877ba65cc26640d9db98dbe42465f4c9c3d7995dd6c6393be"), looks := false }, kinds := [], alts := [], laidByText := true, laidKinds := [.data, .data, .data, .data, .pinned], laidTests := true, laidLooks := .later }
def FnLoadsCardSaid : Prop := Claim7.holds Tryd.pinned (.plain (OpenSpec.ofChange fnLoadsSpec)) fnLoadsCard

/-- THE SECOND FORM's CARD OF 'laws.FnExactShowGraph'. -/
def fnExactShowGraphUptoCard : Claim7 := { stood := { row := fnExactShowGraphUptoRow, standIns := [], harness := (true, "68ede35ad842d83877ba65cc26640d9db98dbe42465f4c9c3d7995dd6c6393be"), looks := false }, kinds := [], alts := [], laidByText := true, laidKinds := [.data, .data, .data], laidTests := true, laidLooks := .later }
def FnExactShowGraphUptoCardSaid : Prop := Claim7.holds Tryd.pinned (.plain (OpenSpec.upto fnExactShowGraphSpec)) fnExactShowGraphUptoCard

/-- THE SECOND FORM's CARD OF 'laws.FnExactLoadGraph'. -/
def fnExactLoadGraphUptoCard : Claim7 := { stood := { row := fnExactLoadGraphUptoRow, standIns := [], harness := (true, "68ede35ad842d83877ba65cc26640d9db98dbe42465f4c9c3d7995dd6c6393be"), looks := false }, kinds := [], alts := [], laidByText := true, laidKinds := [.data, .data, .data, .data, .pinned], laidTests := true, laidLooks := .later }
def FnExactLoadGraphUptoCardSaid : Prop := Claim7.holds Tryd.pinned (.plain (OpenSpec.upto fnExactLoadGraphSpec)) fnExactLoadGraphUptoCard

/-- THE SECOND FORM's CARD OF 'laws.FnLoads'. -/
def fnLoadsUptoCard : Claim7 := { stood := { row := fnLoadsUptoRow, standIns := [], harness := (true, "68ede35ad842d83877ba65cc26640d9db98dbe42465f4c9c3d7995dd6c6393be"), looks := false }, kinds := [], alts := [], laidByText := true, laidKinds := [.data, .data, .data, .data, .pinned], laidTests := true, laidLooks := .later }
def FnLoadsUptoCardSaid : Prop := Claim7.holds Tryd.pinned (.plain (OpenSpec.upto fnLoadsSpec)) fnLoadsUptoCard
end Rows
end Go.Proofs.YtcnclhjhnjpeiaaDoor
