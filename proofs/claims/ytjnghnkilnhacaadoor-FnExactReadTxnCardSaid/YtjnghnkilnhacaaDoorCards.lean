/-
  DERIVED. GIVEN WITH THE SEED: THE CARDS: each row of YtjnghnkilnhacaaDoorRows.lean that lists a variable, with what it lists TIED to the program's text (the seventh form; the later family's looks); each row that meets fmt, with fmt's text TOLD by the authors' own Lean function (tested against real Go, not proved from fmt's source: count such statements apart). THE CARD IS WHAT COUNTS. Prove the row's statement (the work); the ties are given (YtjnghnkilnhacaaDoorTie.lean); close each card by the builder's one call (the guide's Derived/Test/ToyasCard.lean, 'card_holds'). Laid BY PROGRAM, IN A SANDBOX (cutbox-door.mjs). By AI agents, Wed Nov 11 2026. No macro, syntax, notation, axiom, sorry.
-/
import Derived.Test.YtjnghnkilnhacaaDoorRows
import GoSem.ClaimSeven
namespace Go.Proofs.YtjnghnkilnhacaaDoor
namespace Rows

/-- THE TIED CARD OF 'laws.FnExactReadTxn'. -/
def fnExactReadTxnCard : Claim7 := { stood := { row := fnExactReadTxnRow, standIns := [], harness := (true, "41ce84ed55ec550d2583357dde76ec943770b7a15f960ecb46b0390e899cb185"), looks := true }, kinds := [], alts := [], laidByText := true, laidKinds := [.data, .data, .data, .data, .sentinel, .sentinel, .pinned], laidTests := true, laidLooks := .later }
def FnExactReadTxnCardSaid : Prop := Claim7.holds Tryd.pinned (.plain (OpenSpec.ofChange fnExactReadTxnSpec)) fnExactReadTxnCard

/-- THE TIED CARD OF 'laws.FnTxnText'. -/
def fnTxnTextCard : Claim7 := { stood := { row := fnTxnTextRow, standIns := [], harness := (true, "41ce84ed55ec550d2583357dde76ec943770b7a15f960ecb46b0390e899cb185"), looks := true }, kinds := [], alts := [], laidByText := true, laidKinds := [.data, .data, .data, .data, .sentinel, .sentinel, .pinned], laidTests := true, laidLooks := .later }
def FnTxnTextCardSaid : Prop := Claim7.holds Tryd.pinned (.plain (OpenSpec.ofChange fnTxnTextSpec)) fnTxnTextCard

/-- THE TIED CARD OF 'laws.FnReadTxn'. -/
def fnReadTxnCard : Claim7 := { stood := { row := fnReadTxnRow, standIns := [], harness := (true, "41ce84ed55ec550d2583357dde76ec943770b7a15f960ecb46b0390e899cb185"), looks := true }, kinds := [], alts := [], laidByText := true, laidKinds := [.data, .data, .data, .data, .sentinel, .sentinel, .pinned], laidTests := true, laidLooks := .later }
def FnReadTxnCardSaid : Prop := Claim7.holds Tryd.pinned (.plain (OpenSpec.ofChange fnReadTxnSpec)) fnReadTxnCard

/-- THE SECOND FORM's CARD OF 'laws.FnExactReadTxn'. -/
def fnExactReadTxnUptoCard : Claim7 := { stood := { row := fnExactReadTxnUptoRow, standIns := [], harness := (true, "41ce84ed55ec550d2583357dde76ec943770b7a15f960ecb46b0390e899cb185"), looks := true }, kinds := [], alts := [], laidByText := true, laidKinds := [.data, .data, .data, .data, .sentinel, .sentinel, .pinned], laidTests := true, laidLooks := .later }
def FnExactReadTxnUptoCardSaid : Prop := Claim7.holds Tryd.pinned (.plain (OpenSpec.upto fnExactReadTxnSpec)) fnExactReadTxnUptoCard

/-- THE SECOND FORM's CARD OF 'laws.FnTxnText'. -/
def fnTxnTextUptoCard : Claim7 := { stood := { row := fnTxnTextUptoRow, standIns := [], harness := (true, "41ce84ed55ec550d2583357dde76ec943770b7a15f960ecb46b0390e899cb185"), looks := true }, kinds := [], alts := [], laidByText := true, laidKinds := [.data, .data, .data, .data, .sentinel, .sentinel, .pinned], laidTests := true, laidLooks := .later }
def FnTxnTextUptoCardSaid : Prop := Claim7.holds Tryd.pinned (.plain (OpenSpec.upto fnTxnTextSpec)) fnTxnTextUptoCard

/-- THE SECOND FORM's CARD OF 'laws.FnReadTxn'. -/
def fnReadTxnUptoCard : Claim7 := { stood := { row := fnReadTxnUptoRow, standIns := [], harness := (true, "41ce84ed55ec550d2583357dde76ec943770b7a15f960ecb46b0390e899cb185"), looks := true }, kinds := [], alts := [], laidByText := true, laidKinds := [.data, .data, .data, .data, .sentinel, .sentinel, .pinned], laidTests := true, laidLooks := .later }
def FnReadTxnUptoCardSaid : Prop := Claim7.holds Tryd.pinned (.plain (OpenSpec.upto fnReadTxnSpec)) fnReadTxnUptoCard
end Rows
end Go.Proofs.YtjnghnkilnhacaaDoor
