/-
  DERIVED. GIVEN WITH THE SEED: THE CARDS: each row of YtpcghfeiehdapaaDoorRows.lean that lists a variable, with what it lists TIED to the program's text (the seventh form; the later family's looks); each row that meets fmt, with fmt's text TOLD by the authors' own Lean function (tested against real Go, not proved from fmt's source: count such statements apart). THE CARD IS WHAT COUNTS. Prove the row's statement (the work); the ties are given (YtpcghfeiehdapaaDoorTie.lean); close each card by the builder's one call (the guide's Derived/Test/ToyasCard.lean, 'card_holds'). Laid BY PROGRAM, IN A SANDBOX (cutbox-door.mjs). By AI agents, Wed Nov 11 2026. No macro, syntax, notation, axiom, sorry.
-/
import Derived.Test.YtpcghfeiehdapaaDoorRows
import GoSem.ClaimSeven
namespace Go.Proofs.YtpcghfeiehdapaaDoor
namespace Rows

/-- THE TIED CARD OF 'laws.FnLinearRight'. -/
def fnLinearRightCard : Claim7 := { stood := { row := fnLinearRightRow, standIns := [], harness := (true, "8f5a39e9d8f4ed1f1a2018186709fbe8f5225c9a1c89a15b9222c123789f77f0"), looks := false }, kinds := [], alts := [], laidByText := true, laidKinds := [.data, .data, .data], laidTests := true, laidLooks := .later }
def FnLinearRightCardSaid : Prop := Claim7.holds Tryd.pinned (.plain (OpenSpec.ofChange fnLinearRightSpec)) fnLinearRightCard

/-- THE TIED CARD OF 'laws.FnFindLinear'. -/
def fnFindLinearCard : Claim7 := { stood := { row := fnFindLinearRow, standIns := [], harness := (true, "8f5a39e9d8f4ed1f1a2018186709fbe8f5225c9a1c89a15b9222c123789f77f0"), looks := false }, kinds := [], alts := [], laidByText := true, laidKinds := [.data, .data, .data], laidTests := true, laidLooks := .later }
def FnFindLinearCardSaid : Prop := Claim7.holds Tryd.pinned (.plain (OpenSpec.ofChange fnFindLinearSpec)) fnFindLinearCard

/-- THE TIED CARD OF 'laws.FnLinearAlone'. -/
def fnLinearAloneCard : Claim7 := { stood := { row := fnLinearAloneRow, standIns := [], harness := (true, "8f5a39e9d8f4ed1f1a2018186709fbe8f5225c9a1c89a15b9222c123789f77f0"), looks := false }, kinds := [], alts := [], laidByText := true, laidKinds := [.data, .data, .data], laidTests := true, laidLooks := .later }
def FnLinearAloneCardSaid : Prop := Claim7.holds Tryd.pinned (.plain (OpenSpec.ofChange fnLinearAloneSpec)) fnLinearAloneCard

/-- THE SECOND FORM's CARD OF 'laws.FnLinearRight'. -/
def fnLinearRightUptoCard : Claim7 := { stood := { row := fnLinearRightUptoRow, standIns := [], harness := (true, "8f5a39e9d8f4ed1f1a2018186709fbe8f5225c9a1c89a15b9222c123789f77f0"), looks := false }, kinds := [], alts := [], laidByText := true, laidKinds := [.data, .data, .data], laidTests := true, laidLooks := .later }
def FnLinearRightUptoCardSaid : Prop := Claim7.holds Tryd.pinned (.plain (OpenSpec.upto fnLinearRightSpec)) fnLinearRightUptoCard

/-- THE SECOND FORM's CARD OF 'laws.FnFindLinear'. -/
def fnFindLinearUptoCard : Claim7 := { stood := { row := fnFindLinearUptoRow, standIns := [], harness := (true, "8f5a39e9d8f4ed1f1a2018186709fbe8f5225c9a1c89a15b9222c123789f77f0"), looks := false }, kinds := [], alts := [], laidByText := true, laidKinds := [.data, .data, .data], laidTests := true, laidLooks := .later }
def FnFindLinearUptoCardSaid : Prop := Claim7.holds Tryd.pinned (.plain (OpenSpec.upto fnFindLinearSpec)) fnFindLinearUptoCard

/-- THE SECOND FORM's CARD OF 'laws.FnLinearAlone'. -/
def fnLinearAloneUptoCard : Claim7 := { stood := { row := fnLinearAloneUptoRow, standIns := [], harness := (true, "8f5a39e9d8f4ed1f1a2018186709fbe8f5225c9a1c89a15b9222c123789f77f0"), looks := false }, kinds := [], alts := [], laidByText := true, laidKinds := [.data, .data, .data], laidTests := true, laidLooks := .later }
def FnLinearAloneUptoCardSaid : Prop := Claim7.holds Tryd.pinned (.plain (OpenSpec.upto fnLinearAloneSpec)) fnLinearAloneUptoCard
end Rows
end Go.Proofs.YtpcghfeiehdapaaDoor
