/-
  DERIVED. GIVEN WITH THE SEED: THE CARDS: each row of YtjiobgfaohldhaaGreatDoorRows.lean that lists a variable, with what it lists TIED to the program's text (the seventh form; the later family's looks); each row that meets fmt, with fmt's text TOLD by the authors' own Lean function (tested against real Go, not proved from fmt's source: count such statements apart). THE CARD IS WHAT COUNTS. Prove the row's statement (the work); the ties are given (YtjiobgfaohldhaaGreatDoorTie.lean); close each card by the builder's one call (the guide's Derived/Test/ToyasCard.lean, 'card_holds'). Laid BY PROGRAM, IN A SANDBOX (cutbox-door.mjs). By AI agents, Wed Nov 11 2026. No macro, syntax, notation, axiom, sorry.
-/
import Derived.Test.YtjiobgfaohldhaaGreatDoorRows
import GoSem.ClaimSeven
namespace Go.Proofs.YtjiobgfaohldhaaGreatDoor
namespace Rows

/-- THE TIED CARD OF 'laws.FnBestLevel'. -/
def fnBestLevelCard : Claim7 := { stood := { row := fnBestLevelRow, standIns := [], harness := (true, "adea11e6472a6960804bc24866b5bfbe38fba1ba3e56a11c7e09ac510690b19a"), looks := false }, kinds := [], alts := [], laidByText := true, laidKinds := [.data, .data, .data], laidTests := true, laidLooks := .later }
def FnBestLevelCardSaid : Prop := Claim7.holds Tryz.pinned (.plain (OpenSpec.ofChange fnBestLevelSpec)) fnBestLevelCard

/-- THE TIED CARD OF 'laws.FnVerdictRight'. -/
def fnVerdictRightCard : Claim7 := { stood := { row := fnVerdictRightRow, standIns := [], harness := (true, "adea11e6472a6960804bc24866b5bfbe38fba1ba3e56a11c7e09ac510690b19a"), looks := false }, kinds := [], alts := [], laidByText := true, laidKinds := [.data, .data, .data], laidTests := true, laidLooks := .later }
def FnVerdictRightCardSaid : Prop := Claim7.holds Tryz.pinned (.plain (OpenSpec.ofChange fnVerdictRightSpec)) fnVerdictRightCard

/-- THE TIED CARD OF 'laws.FnVerdictOf'. -/
def fnVerdictOfCard : Claim7 := { stood := { row := fnVerdictOfRow, standIns := [], harness := (true, "adea11e6472a6960804bc24866b5bfbe38fba1ba3e56a11c7e09ac510690b19a"), looks := false }, kinds := [], alts := [], laidByText := true, laidKinds := [.data, .data, .data], laidTests := true, laidLooks := .later }
def FnVerdictOfCardSaid : Prop := Claim7.holds Tryz.pinned (.plain (OpenSpec.ofChange fnVerdictOfSpec)) fnVerdictOfCard

/-- THE SECOND FORM's CARD OF 'laws.FnBestLevel'. -/
def fnBestLevelUptoCard : Claim7 := { stood := { row := fnBestLevelUptoRow, standIns := [], harness := (true, "adea11e6472a6960804bc24866b5bfbe38fba1ba3e56a11c7e09ac510690b19a"), looks := false }, kinds := [], alts := [], laidByText := true, laidKinds := [.data, .data, .data], laidTests := true, laidLooks := .later }
def FnBestLevelUptoCardSaid : Prop := Claim7.holds Tryz.pinned (.plain (OpenSpec.upto fnBestLevelSpec)) fnBestLevelUptoCard

/-- THE SECOND FORM's CARD OF 'laws.FnVerdictRight'. -/
def fnVerdictRightUptoCard : Claim7 := { stood := { row := fnVerdictRightUptoRow, standIns := [], harness := (true, "adea11e6472a6960804bc24866b5bfbe38fba1ba3e56a11c7e09ac510690b19a"), looks := false }, kinds := [], alts := [], laidByText := true, laidKinds := [.data, .data, .data], laidTests := true, laidLooks := .later }
def FnVerdictRightUptoCardSaid : Prop := Claim7.holds Tryz.pinned (.plain (OpenSpec.upto fnVerdictRightSpec)) fnVerdictRightUptoCard

/-- THE SECOND FORM's CARD OF 'laws.FnVerdictOf'. -/
def fnVerdictOfUptoCard : Claim7 := { stood := { row := fnVerdictOfUptoRow, standIns := [], harness := (true, "adea11e6472a6960804bc24866b5bfbe38fba1ba3e56a11c7e09ac510690b19a"), looks := false }, kinds := [], alts := [], laidByText := true, laidKinds := [.data, .data, .data], laidTests := true, laidLooks := .later }
def FnVerdictOfUptoCardSaid : Prop := Claim7.holds Tryz.pinned (.plain (OpenSpec.upto fnVerdictOfSpec)) fnVerdictOfUptoCard
end Rows
end Go.Proofs.YtjiobgfaohldhaaGreatDoor
