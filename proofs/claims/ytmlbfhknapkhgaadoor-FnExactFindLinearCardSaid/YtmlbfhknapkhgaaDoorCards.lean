/-
  DERIVED. GIVEN WITH THE SEED: THE CARDS: each row of YtmlbfhknapkhgaaDoorRows.lean that lists a variable, with what it lists TIED to the program's text (the seventh form; the later family's looks); each row that meets fmt, with fmt's text TOLD by the authors' own Lean function (tested against real Go, not proved from fmt's source: count such statements apart). THE CARD IS WHAT COUNTS. Prove the row's statement (the work); the ties are given (YtmlbfhknapkhgaaDoorTie.lean); close each card by the builder's one call (the guide's Derived/Test/ToyasCard.lean, 'card_holds'). Laid BY PROGRAM, IN A SANDBOX (cutbox-door.mjs). By AI agents, Wed Nov 11 2026. No macro, syntax, notation, axiom, sorry.
-/
import Derived.Test.YtmlbfhknapkhgaaDoorRows
import GoSem.ClaimSeven
namespace Go.Proofs.YtmlbfhknapkhgaaDoor
namespace Rows

/-- THE TIED CARD OF 'laws.FnExactFindStrict'. -/
def fnExactFindStrictCard : Claim7 := { stood := { row := fnExactFindStrictRow, standIns := [], harness := (true, "bcede1e9be1f988c7b7e33c151a8f1bbae3f5deb2c0fa67f520713468d2b319b"), looks := false }, kinds := [], alts := [], laidByText := true, laidKinds := [.data, .data], laidTests := true, laidLooks := .later }
def FnExactFindStrictCardSaid : Prop := Claim7.holds Tryd.pinned (.plain (OpenSpec.ofChange fnExactFindStrictSpec)) fnExactFindStrictCard

/-- THE TIED CARD OF 'laws.FnExactLinearRight'. -/
def fnExactLinearRightCard : Claim7 := { stood := { row := fnExactLinearRightRow, standIns := [], harness := (true, "bcede1e9be1f988c7b7e33c151a8f1bbae3f5deb2c0fa67f520713468d2b319b"), looks := false }, kinds := [], alts := [], laidByText := true, laidKinds := [.data, .data], laidTests := true, laidLooks := .later }
def FnExactLinearRightCardSaid : Prop := Claim7.holds Tryd.pinned (.plain (OpenSpec.ofChange fnExactLinearRightSpec)) fnExactLinearRightCard

/-- THE TIED CARD OF 'laws.FnExactFindLinear'. -/
def fnExactFindLinearCard : Claim7 := { stood := { row := fnExactFindLinearRow, standIns := [], harness := (true, "bcede1e9be1f988c7b7e33c151a8f1bbae3f5deb2c0fa67f520713468d2b319b"), looks := false }, kinds := [], alts := [], laidByText := true, laidKinds := [.data, .data], laidTests := true, laidLooks := .later }
def FnExactFindLinearCardSaid : Prop := Claim7.holds Tryd.pinned (.plain (OpenSpec.ofChange fnExactFindLinearSpec)) fnExactFindLinearCard

/-- THE SECOND FORM's CARD OF 'laws.FnExactFindStrict'. -/
def fnExactFindStrictUptoCard : Claim7 := { stood := { row := fnExactFindStrictUptoRow, standIns := [], harness := (true, "bcede1e9be1f988c7b7e33c151a8f1bbae3f5deb2c0fa67f520713468d2b319b"), looks := false }, kinds := [], alts := [], laidByText := true, laidKinds := [.data, .data], laidTests := true, laidLooks := .later }
def FnExactFindStrictUptoCardSaid : Prop := Claim7.holds Tryd.pinned (.plain (OpenSpec.upto fnExactFindStrictSpec)) fnExactFindStrictUptoCard

/-- THE SECOND FORM's CARD OF 'laws.FnExactLinearRight'. -/
def fnExactLinearRightUptoCard : Claim7 := { stood := { row := fnExactLinearRightUptoRow, standIns := [], harness := (true, "bcede1e9be1f988c7b7e33c151a8f1bbae3f5deb2c0fa67f520713468d2b319b"), looks := false }, kinds := [], alts := [], laidByText := true, laidKinds := [.data, .data], laidTests := true, laidLooks := .later }
def FnExactLinearRightUptoCardSaid : Prop := Claim7.holds Tryd.pinned (.plain (OpenSpec.upto fnExactLinearRightSpec)) fnExactLinearRightUptoCard

/-- THE SECOND FORM's CARD OF 'laws.FnExactFindLinear'. -/
def fnExactFindLinearUptoCard : Claim7 := { stood := { row := fnExactFindLinearUptoRow, standIns := [], harness := (true, "bcede1e9be1f988c7b7e33c151a8f1bbae3f5deb2c0fa67f520713468d2b319b"), looks := false }, kinds := [], alts := [], laidByText := true, laidKinds := [.data, .data], laidTests := true, laidLooks := .later }
def FnExactFindLinearUptoCardSaid : Prop := Claim7.holds Tryd.pinned (.plain (OpenSpec.upto fnExactFindLinearSpec)) fnExactFindLinearUptoCard
end Rows
end Go.Proofs.YtmlbfhknapkhgaaDoor
