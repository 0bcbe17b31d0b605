/-
  DERIVED. GIVEN WITH THE SEED: THE CARDS: each row of YtaaagoppecnmmaaGreatDoorRows.lean that lists a variable, with what it lists TIED to the program's text (the seventh form; the later family's looks); each row that meets fmt, with fmt's text TOLD by the authors' own Lean function (tested against real Go, not proved from fmt's source: count such statements apart). THE CARD IS WHAT COUNTS. Prove the row's statement (the work); the ties are given (YtaaagoppecnmmaaGreatDoorTie.lean); close each card by the builder's one call (the guide's Derived/Test/ToyasCard.lean, 'card_holds'). Laid BY PROGRAM, IN A SANDBOX (cutbox-door.mjs). By AI agents, Wed Nov 11 2026. No macro, syntax, notation, axiom, sorry.
-/
import Derived.Test.YtaaagoppecnmmaaGreatDoorRows
import GoSem.ClaimSeven
namespace Go.Proofs.YtaaagoppecnmmaaGreatDoor
namespace Rows

/-- THE TIED CARD OF 'laws.FnFindStrict'. -/
def fnFindStrictCard : Claim7 := { stood := { row := fnFindStrictRow, standIns := [], harness := (true, "e7de1f2df649b5d4bf2f63ae7c83f468d41b45ec0ede7098567248771eb9bfbc"), looks := false }, kinds := [], alts := [], laidByText := true, laidKinds := [.data, .data, .data], laidTests := true, laidLooks := .later }
def FnFindStrictCardSaid : Prop := Claim7.holds Tryz.pinned (.plain (OpenSpec.ofChange fnFindStrictSpec)) fnFindStrictCard

/-- THE TIED CARD OF 'laws.FnSessionSerial'. -/
def fnSessionSerialCard : Claim7 := { stood := { row := fnSessionSerialRow, standIns := [], harness := (true, "e7de1f2df649b5d4bf2f63ae7c83f468d41b45ec0ede7098567248771eb9bfbc"), looks := false }, kinds := [], alts := [], laidByText := true, laidKinds := [.data, .data, .data], laidTests := true, laidLooks := .later }
def FnSessionSerialCardSaid : Prop := Claim7.holds Tryz.pinned (.plain (OpenSpec.ofChange fnSessionSerialSpec)) fnSessionSerialCard

/-- THE TIED CARD OF 'laws.FnSnapshotTwice'. -/
def fnSnapshotTwiceCard : Claim7 := { stood := { row := fnSnapshotTwiceRow, standIns := [], harness := (true, "e7de1f2df649b5d4bf2f63ae7c83f468d41b45ec0ede7098567248771eb9bfbc"), looks := false }, kinds := [], alts := [], laidByText := true, laidKinds := [.data, .data, .data], laidTests := true, laidLooks := .later }
def FnSnapshotTwiceCardSaid : Prop := Claim7.holds Tryz.pinned (.plain (OpenSpec.ofChange fnSnapshotTwiceSpec)) fnSnapshotTwiceCard

/-- THE SECOND FORM's CARD OF 'laws.FnFindStrict'. -/
def fnFindStrictUptoCard : Claim7 := { stood := { row := fnFindStrictUptoRow, standIns := [], harness := (true, "e7de1f2df649b5d4bf2f63ae7c83f468d41b45ec0ede7098567248771eb9bfbc"), looks := false }, kinds := [], alts := [], laidByText := true, laidKinds := [.data, .data, .data], laidTests := true, laidLooks := .later }
def FnFindStrictUptoCardSaid : Prop := Claim7.holds Tryz.pinned (.plain (OpenSpec.upto fnFindStrictSpec)) fnFindStrictUptoCard

/-- THE SECOND FORM's CARD OF 'laws.FnSessionSerial'. -/
def fnSessionSerialUptoCard : Claim7 := { stood := { row := fnSessionSerialUptoRow, standIns := [], harness := (true, "e7de1f2df649b5d4bf2f63ae7c83f468d41b45ec0ede7098567248771eb9bfbc"), looks := false }, kinds := [], alts := [], laidByText := true, laidKinds := [.data, .data, .data], laidTests := true, laidLooks := .later }
def FnSessionSerialUptoCardSaid : Prop := Claim7.holds Tryz.pinned (.plain (OpenSpec.upto fnSessionSerialSpec)) fnSessionSerialUptoCard

/-- THE SECOND FORM's CARD OF 'laws.FnSnapshotTwice'. -/
def fnSnapshotTwiceUptoCard : Claim7 := { stood := { row := fnSnapshotTwiceUptoRow, standIns := [], harness := (true, "e7de1f2df649b5d4bf2f63ae7c83f468d41b45ec0ede7098567248771eb9bfbc"), looks := false }, kinds := [], alts := [], laidByText := true, laidKinds := [.data, .data, .data], laidTests := true, laidLooks := .later }
def FnSnapshotTwiceUptoCardSaid : Prop := Claim7.holds Tryz.pinned (.plain (OpenSpec.upto fnSnapshotTwiceSpec)) fnSnapshotTwiceUptoCard
end Rows
end Go.Proofs.YtaaagoppecnmmaaGreatDoor
