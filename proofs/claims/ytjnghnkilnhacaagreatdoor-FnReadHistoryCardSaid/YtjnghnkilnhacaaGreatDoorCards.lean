/-
  DERIVED. GIVEN WITH THE SEED: THE CARDS: each row of YtjnghnkilnhacaaGreatDoorRows.lean that lists a variable, with what it lists TIED to the program's text (the seventh form; the later family's looks); each row that meets fmt, with fmt's text TOLD by the authors' own Lean function (tested against real Go, not proved from fmt's source: count such statements apart). THE CARD IS WHAT COUNTS. Prove the row's statement (the work); the ties are given (YtjnghnkilnhacaaGreatDoorTie.lean); close each card by the builder's one call (the guide's Derived/Test/ToyasCard.lean, 'card_holds'). Laid BY PROGRAM, IN A SANDBOX (cutbox-door.mjs). By AI agents, Wed Nov 11 2026. No macro, syntax, notation, axiom, sorry.
-/
import Derived.Test.YtjnghnkilnhacaaGreatDoorRows
import GoSem.ClaimSeven
namespace Go.Proofs.YtjnghnkilnhacaaGreatDoor
namespace Rows

/-- THE TIED CARD OF 'laws.FnHistoryText'. -/
def fnHistoryTextCard : Claim7 := { stood := { row := fnHistoryTextRow, standIns := [], harness := (true, "fac22eaa631c4213ec1864da251454e868f0bae454dcdc79a8dfb06657773d58"), looks := true }, kinds := [], alts := [], laidByText := true, laidKinds := [.data, .data, .data, .data, .sentinel, .sentinel, .pinned], laidTests := true, laidLooks := .later }
def FnHistoryTextCardSaid : Prop := Claim7.holds Tryz.pinned (.plain (OpenSpec.ofChange fnHistoryTextSpec)) fnHistoryTextCard

/-- THE TIED CARD OF 'laws.FnExactReadHistory'. -/
def fnExactReadHistoryCard : Claim7 := { stood := { row := fnExactReadHistoryRow, standIns := [], harness := (true, "fac22eaa631c4213ec1864da251454e868f0bae454dcdc79a8dfb06657773d58"), looks := true }, kinds := [], alts := [], laidByText := true, laidKinds := [.data, .data, .data, .data, .sentinel, .sentinel, .pinned], laidTests := true, laidLooks := .later }
def FnExactReadHistoryCardSaid : Prop := Claim7.holds Tryz.pinned (.plain (OpenSpec.ofChange fnExactReadHistorySpec)) fnExactReadHistoryCard

/-- THE TIED CARD OF 'laws.FnReadHistory'. -/
def fnReadHistoryCard : Claim7 := { stood := { row := fnReadHistoryRow, standIns := [], harness := (true, "fac22eaa631c4213ec1864da251454e868f0bae454dcdc79a8dfb06657773d58"), looks := true }, kinds := [], alts := [], laidByText := true, laidKinds := [.data, .data, .data, .data, .sentinel, .sentinel, .pinned], laidTests := true, laidLooks := .later }
def FnReadHistoryCardSaid : Prop := Claim7.holds Tryz.pinned (.plain (OpenSpec.ofChange fnReadHistorySpec)) fnReadHistoryCard

/-- THE SECOND FORM's CARD OF 'laws.FnHistoryText'. -/
def fnHistoryTextUptoCard : Claim7 := { stood := { row := fnHistoryTextUptoRow, standIns := [], harness := (true, "fac22eaa631c4213ec1864da251454e868f0bae454dcdc79a8dfb06657773d58"), looks := true }, kinds := [], alts := [], laidByText := true, laidKinds := [.data, .data, .data, .data, .sentinel, .sentinel, .pinned], laidTests := true, laidLooks := .later }
def FnHistoryTextUptoCardSaid : Prop := Claim7.holds Tryz.pinned (.plain (OpenSpec.upto fnHistoryTextSpec)) fnHistoryTextUptoCard

/-- THE SECOND FORM's CARD OF 'laws.FnExactReadHistory'. -/
def fnExactReadHistoryUptoCard : Claim7 := { stood := { row := fnExactReadHistoryUptoRow, standIns := [], harness := (true, "fac22eaa631c4213ec1864da251454e868f0bae454dcdc79a8dfb06657773d58"), looks := true }, kinds := [], alts := [], laidByText := true, laidKinds := [.data, .data, .data, .data, .sentinel, .sentinel, .pinned], laidTests := true, laidLooks := .later }
def FnExactReadHistoryUptoCardSaid : Prop := Claim7.holds Tryz.pinned (.plain (OpenSpec.upto fnExactReadHistorySpec)) fnExactReadHistoryUptoCard

/-- THE SECOND FORM's CARD OF 'laws.FnReadHistory'. -/
def fnReadHistoryUptoCard : Claim7 := { stood := { row := fnReadHistoryUptoRow, standIns := [], harness := (true, "fac22eaa631c4213ec1864da251454e868f0bae454dcdc79a8dfb06657773d58"), looks := true }, kinds := [], alts := [], laidByText := true, laidKinds := [.data, .data, .data, .data, .sentinel, .sentinel, .pinned], laidTests := true, laidLooks := .later }
def FnReadHistoryUptoCardSaid : Prop := Claim7.holds Tryz.pinned (.plain (OpenSpec.upto fnReadHistorySpec)) fnReadHistoryUptoCard
end Rows
end Go.Proofs.YtjnghnkilnhacaaGreatDoor
