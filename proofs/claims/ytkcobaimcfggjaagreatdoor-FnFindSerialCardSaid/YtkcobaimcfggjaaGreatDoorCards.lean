/-
  DERIVED. GIVEN WITH THE SEED: THE CARDS: each row of YtkcobaimcfggjaaGreatDoorRows.lean that lists a variable, with what it lists TIED to the program's text (the seventh form; the later family's looks); each row that meets fmt, with fmt's text TOLD by the authors' own Lean function (tested against real Go, not proved from fmt's source: count such statements apart). THE CARD IS WHAT COUNTS. Prove the row's statement (the work); the ties are given (YtkcobaimcfggjaaGreatDoorTie.lean); close each card by the builder's one call (the guide's Derived/Test/ToyasCard.lean, 'card_holds'). Laid BY PROGRAM, IN A SANDBOX (cutbox-door.mjs). By AI agents, Wed Nov 11 2026. No macro, syntax, notation, axiom, sorry.
-/
import Derived.Test.YtkcobaimcfggjaaGreatDoorRows
import GoSem.ClaimSeven
namespace Go.Proofs.YtkcobaimcfggjaaGreatDoor
namespace Rows

/-- THE TIED CARD OF 'laws.FnEdgesTop'. -/
def fnEdgesTopCard : Claim7 := { stood := { row := fnEdgesTopRow, standIns := [], harness := (true, "fabe62086400cde2f91b7db9cc6ac7980e626d3f9c7f3895be93b20f16ce6643"), looks := false }, kinds := [], alts := [], laidByText := true, laidKinds := [.data, .data, .data], laidTests := true, laidLooks := .later }
def FnEdgesTopCardSaid : Prop := Claim7.holds Tryz.pinned (.plain (OpenSpec.ofChange fnEdgesTopSpec)) fnEdgesTopCard

/-- THE TIED CARD OF 'laws.FnSerialOrders'. -/
def fnSerialOrdersCard : Claim7 := { stood := { row := fnSerialOrdersRow, standIns := [], harness := (true, "fabe62086400cde2f91b7db9cc6ac7980e626d3f9c7f3895be93b20f16ce6643"), looks := false }, kinds := [], alts := [], laidByText := true, laidKinds := [.data, .data, .data], laidTests := true, laidLooks := .later }
def FnSerialOrdersCardSaid : Prop := Claim7.holds Tryz.pinned (.plain (OpenSpec.ofChange fnSerialOrdersSpec)) fnSerialOrdersCard

/-- THE TIED CARD OF 'laws.FnFindSerial'. -/
def fnFindSerialCard : Claim7 := { stood := { row := fnFindSerialRow, standIns := [], harness := (true, "fabe62086400cde2f91b7db9cc6ac7980e626d3f9c7f3895be93b20f16ce6643"), looks := false }, kinds := [], alts := [], laidByText := true, laidKinds := [.data, .data, .data], laidTests := true, laidLooks := .later }
def FnFindSerialCardSaid : Prop := Claim7.holds Tryz.pinned (.plain (OpenSpec.ofChange fnFindSerialSpec)) fnFindSerialCard

/-- THE TIED CARD OF 'laws.FnCommitOrders'. -/
def fnCommitOrdersCard : Claim7 := { stood := { row := fnCommitOrdersRow, standIns := [], harness := (true, "fabe62086400cde2f91b7db9cc6ac7980e626d3f9c7f3895be93b20f16ce6643"), looks := false }, kinds := [], alts := [], laidByText := true, laidKinds := [.data, .data, .data], laidTests := true, laidLooks := .later }
def FnCommitOrdersCardSaid : Prop := Claim7.holds Tryz.pinned (.plain (OpenSpec.ofChange fnCommitOrdersSpec)) fnCommitOrdersCard

/-- THE TIED CARD OF 'laws.FnBestLevel'. -/
def fnBestLevelCard : Claim7 := { stood := { row := fnBestLevelRow, standIns := [], harness := (true, "fabe62086400cde2f91b7db9cc6ac7980e626d3f9c7f3895be93b20f16ce6643"), looks := false }, kinds := [], alts := [], laidByText := true, laidKinds := [.data, .data, .data], laidTests := true, laidLooks := .later }
def FnBestLevelCardSaid : Prop := Claim7.holds Tryz.pinned (.plain (OpenSpec.ofChange fnBestLevelSpec)) fnBestLevelCard

/-- THE TIED CARD OF 'laws.FnVerdictRight'. -/
def fnVerdictRightCard : Claim7 := { stood := { row := fnVerdictRightRow, standIns := [], harness := (true, "fabe62086400cde2f91b7db9cc6ac7980e626d3f9c7f3895be93b20f16ce6643"), looks := false }, kinds := [], alts := [], laidByText := true, laidKinds := [.data, .data, .data], laidTests := true, laidLooks := .later }
def FnVerdictRightCardSaid : Prop := Claim7.holds Tryz.pinned (.plain (OpenSpec.ofChange fnVerdictRightSpec)) fnVerdictRightCard

/-- THE TIED CARD OF 'laws.FnVerdictOf'. -/
def fnVerdictOfCard : Claim7 := { stood := { row := fnVerdictOfRow, standIns := [], harness := (true, "fabe62086400cde2f91b7db9cc6ac7980e626d3f9c7f3895be93b20f16ce6643"), looks := false }, kinds := [], alts := [], laidByText := true, laidKinds := [.data, .data, .data], laidTests := true, laidLooks := .later }
def FnVerdictOfCardSaid : Prop := Claim7.holds Tryz.pinned (.plain (OpenSpec.ofChange fnVerdictOfSpec)) fnVerdictOfCard

/-- THE SECOND FORM's CARD OF 'laws.FnEdgesTop'. -/
def fnEdgesTopUptoCard : Claim7 := { stood := { row := fnEdgesTopUptoRow, standIns := [], harness := (true, "fabe62086400cde2f91b7db9cc6ac7980e626d3f9c7f3895be93b20f16ce6643"), looks := false }, kinds := [], alts := [], laidByText := true, laidKinds := [.data, .data, .data], laidTests := true, laidLooks := .later }
def FnEdgesTopUptoCardSaid : Prop := Claim7.holds Tryz.pinned (.plain (OpenSpec.upto fnEdgesTopSpec)) fnEdgesTopUptoCard

/-- THE SECOND FORM's CARD OF 'laws.FnSerialOrders'. -/
def fnSerialOrdersUptoCard : Claim7 := { stood := { row := fnSerialOrdersUptoRow, standIns := [], harness := (true, "fabe62086400cde2f91b7db9cc6ac7980e626d3f9c7f3895be93b20f16ce6643"), looks := false }, kinds := [], alts := [], laidByText := true, laidKinds := [.data, .data, .data], laidTests := true, laidLooks := .later }
def FnSerialOrdersUptoCardSaid : Prop := Claim7.holds Tryz.pinned (.plain (OpenSpec.upto fnSerialOrdersSpec)) fnSerialOrdersUptoCard

/-- THE SECOND FORM's CARD OF 'laws.FnFindSerial'. -/
def fnFindSerialUptoCard : Claim7 := { stood := { row := fnFindSerialUptoRow, standIns := [], harness := (true, "fabe62086400cde2f91b7db9cc6ac7980e626d3f9c7f3895be93b20f16ce6643"), looks := false }, kinds := [], alts := [], laidByText := true, laidKinds := [.data, .data, .data], laidTests := true, laidLooks := .later }
def FnFindSerialUptoCardSaid : Prop := Claim7.holds Tryz.pinned (.plain (OpenSpec.upto fnFindSerialSpec)) fnFindSerialUptoCard

/-- THE SECOND FORM's CARD OF 'laws.FnCommitOrders'. -/
def fnCommitOrdersUptoCard : Claim7 := { stood := { row := fnCommitOrdersUptoRow, standIns := [], harness := (true, "fabe62086400cde2f91b7db9cc6ac7980e626d3f9c7f3895be93b20f16ce6643"), looks := false }, kinds := [], alts := [], laidByText := true, laidKinds := [.data, .data, .data], laidTests := true, laidLooks := .later }
def FnCommitOrdersUptoCardSaid : Prop := Claim7.holds Tryz.pinned (.plain (OpenSpec.upto fnCommitOrdersSpec)) fnCommitOrdersUptoCard

/-- THE SECOND FORM's CARD OF 'laws.FnBestLevel'. -/
def fnBestLevelUptoCard : Claim7 := { stood := { row := fnBestLevelUptoRow, standIns := [], harness := (true, "fabe62086400cde2f91b7db9cc6ac7980e626d3f9c7f3895be93b20f16ce6643"), looks := false }, kinds := [], alts := [], laidByText := true, laidKinds := [.data, .data, .data], laidTests := true, laidLooks := .later }
def FnBestLevelUptoCardSaid : Prop := Claim7.holds Tryz.pinned (.plain (OpenSpec.upto fnBestLevelSpec)) fnBestLevelUptoCard

/-- THE SECOND FORM's CARD OF 'laws.FnVerdictRight'. -/
def fnVerdictRightUptoCard : Claim7 := { stood := { row := fnVerdictRightUptoRow, standIns := [], harness := (true, "fabe62086400cde2f91b7db9cc6ac7980e626d3f9c7f3895be93b20f16ce6643"), looks := false }, kinds := [], alts := [], laidByText := true, laidKinds := [.data, .data, .data], laidTests := true, laidLooks := .later }
def FnVerdictRightUptoCardSaid : Prop := Claim7.holds Tryz.pinned (.plain (OpenSpec.upto fnVerdictRightSpec)) fnVerdictRightUptoCard

/-- THE SECOND FORM's CARD OF 'laws.FnVerdictOf'. -/
def fnVerdictOfUptoCard : Claim7 := { stood := { row := fnVerdictOfUptoRow, standIns := [], harness := (true, "fabe62086400cde2f91b7db9cc6ac7980e626d3f9c7f3895be93b20f16ce6643"), looks := false }, kinds := [], alts := [], laidByText := true, laidKinds := [.data, .data, .data], laidTests := true, laidLooks := .later }
def FnVerdictOfUptoCardSaid : Prop := Claim7.holds Tryz.pinned (.plain (OpenSpec.upto fnVerdictOfSpec)) fnVerdictOfUptoCard
end Rows
end Go.Proofs.YtkcobaimcfggjaaGreatDoor
