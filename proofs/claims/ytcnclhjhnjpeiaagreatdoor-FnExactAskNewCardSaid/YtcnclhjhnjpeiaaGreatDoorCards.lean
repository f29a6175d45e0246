/-
  DERIVED. GIVEN WITH THE SEED: THE CARDS: each row of YtcnclhjhnjpeiaaGreatDoorRows.lean that lists a variable, with what it lists TIED to the program's text (the seventh form; the later family's looks); each row that meets fmt, with fmt's text TOLD by the authors' own Lean function (tested against real Go, not proved from fmt's source: count such statements apart). THE CARD IS WHAT COUNTS. Prove the row's statement (the work); the ties are given (YtcnclhjhnjpeiaaGreatDoorTie.lean); close each card by the builder's one call (the guide's Derived/Test/ToyasCard.lean, 'card_holds'). Laid BY PROGRAM, IN A SANDBOX (cutbox-door.mjs). By AI agents, Wed Nov 11 2026. No macro, syntax, notation, axiom, sorry.
-/
import Derived.Test.YtcnclhjhnjpeiaaGreatDoorRows
import GoSem.ClaimSeven
namespace Go.Proofs.YtcnclhjhnjpeiaaGreatDoor
namespace Rows

/-- THE TIED CARD OF 'laws.FnExactReplyOf'. -/
def fnExactReplyOfCard : Claim7 := { stood := { row := fnExactReplyOfRow, standIns := [], harness := (true, "066aaa0f8a3119144cb420f5903a1fad7a4f6d16025b8a6fe30a4101287a10bc"), looks := false }, kinds := [], alts := [], laidByText := true, laidKinds := [.data, .data, .data], laidTests := true, laidLooks := .later }
def FnExactReplyOfCardSaid : Prop := Claim7.holds Tryz.pinned (.plain (OpenSpec.ofChange fnExactReplyOfSpec)) fnExactReplyOfCard

/-- THE TIED CARD OF 'laws.FnExactAskNew'. -/
def fnExactAskNewCard : Claim7 := { stood := { row := fnExactAskNewRow, standIns := [], harness := (true, "066aaa0f8a3119144cb420f5903a1fad7a4f6d16025b8a6fe30a4101287a10bc"), looks := false }, kinds := [], alts := [], laidByText := true, laidKinds := [.data, .data, .data], laidTests := true, laidLooks := .later }
def FnExactAskNewCardSaid : Prop := Claim7.holds Tryz.pinned (.plain (OpenSpec.ofChange fnExactAskNewSpec)) fnExactAskNewCard

/-- THE TIED CARD OF 'laws.FnExactAskLetters'. -/
def fnExactAskLettersCard : Claim7 := { stood := { row := fnExactAskLettersRow, standIns := [], harness := (true, "066aaa0f8a3119144cb420f5903a1fad7a4f6d16025b8a6fe30a4101287a10bc"), looks := false }, kinds := [], alts := [], laidByText := true, laidKinds := [.data, .data, .data], laidTests := true, laidLooks := .later }
def FnExactAskLettersCardSaid : Prop := Claim7.holds Tryz.pinned (.plain (OpenSpec.ofChange fnExactAskLettersSpec)) fnExactAskLettersCard

/-- THE SECOND FORM's CARD OF 'laws.FnExactReplyOf'. -/
def fnExactReplyOfUptoCard : Claim7 := { stood := { row := fnExactReplyOfUptoRow, standIns := [], harness := (true, "066aaa0f8a3119144cb420f5903a1fad7a4f6d16025b8a6fe30a4101287a10bc"), looks := false }, kinds := [], alts := [], laidByText := true, laidKinds := [.data, .data, .data], laidTests := true, laidLooks := .later }
def FnExactReplyOfUptoCardSaid : Prop := Claim7.holds Tryz.pinned (.plain (OpenSpec.upto fnExactReplyOfSpec)) fnExactReplyOfUptoCard

/-- THE SECOND FORM's CARD OF 'laws.FnExactAskNew'. -/
def fnExactAskNewUptoCard : Claim7 := { stood := { row := fnExactAskNewUptoRow, standIns := [], harness := (true, "066aaa0f8a3119144cb420f5903a1fad7a4f6d16025b8a6fe30a4101287a10bc"), looks := false }, kinds := [], alts := [], laidByText := true, laidKinds := [.data, .data, .data], laidTests := true, laidLooks := .later }
def FnExactAskNewUptoCardSaid : Prop := Claim7.holds Tryz.pinned (.plain (OpenSpec.upto fnExactAskNewSpec)) fnExactAskNewUptoCard

/-- THE SECOND FORM's CARD OF 'laws.FnExactAskLetters'. -/
def fnExactAskLettersUptoCard : Claim7 := { stood := { row := fnExactAskLettersUptoRow, standIns := [], harness := (true, "066aaa0f8a3119144cb420f5903a1fad7a4f6d16025b8a6fe30a4101287a10bc"), looks := false }, kinds := [], alts := [], laidByText := true, laidKinds := [.data, .data, .data], laidTests := true, laidLooks := .later }
def FnExactAskLettersUptoCardSaid : Prop := Claim7.holds Tryz.pinned (.plain (OpenSpec.upto fnExactAskLettersSpec)) fnExactAskLettersUptoCard
end Rows
end Go.Proofs.YtcnclhjhnjpeiaaGreatDoor
