/-
  DERIVED. GIVEN WITH THE SEED: THE CARDS: each row of YtnlicjgegclilaaDoorRows.lean that lists a variable, with what it lists TIED to the program's text (the seventh form; the later family's looks); each row that meets fmt, with fmt's text TOLD by the authors' own Lean function (tested against real Go, not proved from fmt's source: count such statements apart). THE CARD IS WHAT COUNTS. Prove the row's statement (the work); the ties are given (YtnlicjgegclilaaDoorTie.lean); close each card by the builder's one call (the guide's Derived/Test/ToyasCard.lean, 'card_holds'). Laid BY PROGRAM, IN A SANDBOX (cutbox-door.mjs). By AI agents, Wed Nov 11 2026. No macro, syntax, notation, axiom, sorry.
-/
import Derived.Test.YtnlicjgegclilaaDoorRows
import GoSem.ClaimSeven
namespace Go.Proofs.YtnlicjgegclilaaDoor
namespace Rows

/-- THE TIED CARD OF 'laws.FnCycleRight'. -/
def fnCycleRightCard : Claim7 := { stood := { row := fnCycleRightRow, standIns := [], harness := (true, "4efc6d6ec18d3e00f74b6bbed4a01dd0f190c31388b9c818e353504363e1decf"), looks := false }, kinds := [], alts := [], laidByText := true, laidKinds := [.data, .data, .data], laidTests := true, laidLooks := .later }
def FnCycleRightCardSaid : Prop := Claim7.holds Tryd.pinned (.plain (OpenSpec.ofChange fnCycleRightSpec)) fnCycleRightCard

/-- THE TIED CARD OF 'laws.FnCycleOf'. -/
def fnCycleOfCard : Claim7 := { stood := { row := fnCycleOfRow, standIns := [], harness := (true, "4efc6d6ec18d3e00f74b6bbed4a01dd0f190c31388b9c818e353504363e1decf"), looks := false }, kinds := [], alts := [], laidByText := true, laidKinds := [.data, .data, .data], laidTests := true, laidLooks := .later }
def FnCycleOfCardSaid : Prop := Claim7.holds Tryd.pinned (.plain (OpenSpec.ofChange fnCycleOfSpec)) fnCycleOfCard

/-- THE SECOND FORM's CARD OF 'laws.FnCycleRight'. -/
def fnCycleRightUptoCard : Claim7 := { stood := { row := fnCycleRightUptoRow, standIns := [], harness := (true, "4efc6d6ec18d3e00f74b6bbed4a01dd0f190c31388b9c818e353504363e1decf"), looks := false }, kinds := [], alts := [], laidByText := true, laidKinds := [.data, .data, .data], laidTests := true, laidLooks := .later }
def FnCycleRightUptoCardSaid : Prop := Claim7.holds Tryd.pinned (.plain (OpenSpec.upto fnCycleRightSpec)) fnCycleRightUptoCard

/-- THE SECOND FORM's CARD OF 'laws.FnCycleOf'. -/
def fnCycleOfUptoCard : Claim7 := { stood := { row := fnCycleOfUptoRow, standIns := [], harness := (true, "4efc6d6ec18d3e00f74b6bbed4a01dd0f190c31388b9c818e353504363e1decf"), looks := false }, kinds := [], alts := [], laidByText := true, laidKinds := [.data, .data, .data], laidTests := true, laidLooks := .later }
def FnCycleOfUptoCardSaid : Prop := Claim7.holds Tryd.pinned (.plain (OpenSpec.upto fnCycleOfSpec)) fnCycleOfUptoCard
end Rows
end Go.Proofs.YtnlicjgegclilaaDoor
