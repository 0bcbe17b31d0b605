/-
  DERIVED. GIVEN WITH THE SEED: THE CARDS: each row of YtaaagoppecnmmaaDoorRows.lean that lists a variable, with what it lists TIED to the program's text (the seventh form; the later family's looks); each row that meets fmt, with fmt's text TOLD by the authors' own Lean function (tested against real Go, not proved from fmt's source: count such statements apart). THE CARD IS WHAT COUNTS. Prove the row's statement (the work); the ties are given (YtaaagoppecnmmaaDoorTie.lean); close each card by the builder's one call (the guide's Derived/Test/ToyasCard.lean, 'card_holds'). Laid BY PROGRAM, IN A SANDBOX (cutbox-door.mjs). By AI agents, Wed Nov 11 2026. No macro, syntax, notation, axiom, sorry.
-/
import Derived.Test.YtaaagoppecnmmaaDoorRows
import GoSem.ClaimSeven
namespace Go.Proofs.YtaaagoppecnmmaaDoor
namespace Rows

/-- THE TIED CARD OF 'laws.FnDropTxn'. -/
def fnDropTxnCard : Claim7 := { stood := { row := fnDropTxnRow, standIns := [], harness := (true, "2b00bcfef5227532b0669e2b65dd80716b7db78d5947a3dbd7f09b471f34991e"), looks := false }, kinds := [], alts := [], laidByText := true, laidKinds := [.data, .data, .data], laidTests := true, laidLooks := .later }
def FnDropTxnCardSaid : Prop := Claim7.holds Tryd.pinned (.plain (OpenSpec.ofChange fnDropTxnSpec)) fnDropTxnCard

/-- THE TIED CARD OF 'laws.FnStrictSession'. -/
def fnStrictSessionCard : Claim7 := { stood := { row := fnStrictSessionRow, standIns := [], harness := (true, "2b00bcfef5227532b0669e2b65dd80716b7db78d5947a3dbd7f09b471f34991e"), looks := false }, kinds := [], alts := [], laidByText := true, laidKinds := [.data, .data, .data], laidTests := true, laidLooks := .later }
def FnStrictSessionCardSaid : Prop := Claim7.holds Tryd.pinned (.plain (OpenSpec.ofChange fnStrictSessionSpec)) fnStrictSessionCard

/-- THE TIED CARD OF 'laws.FnShrinkTwice'. -/
def fnShrinkTwiceCard : Claim7 := { stood := { row := fnShrinkTwiceRow, standIns := [], harness := (true, "2b00bcfef5227532b0669e2b65dd80716b7db78d5947a3dbd7f09b471f34991e"), looks := false }, kinds := [], alts := [], laidByText := true, laidKinds := [.data, .data, .data], laidTests := true, laidLooks := .later }
def FnShrinkTwiceCardSaid : Prop := Claim7.holds Tryd.pinned (.plain (OpenSpec.ofChange fnShrinkTwiceSpec)) fnShrinkTwiceCard

/-- THE TIED CARD OF 'laws.FnShrinkBad'. -/
def fnShrinkBadCard : Claim7 := { stood := { row := fnShrinkBadRow, standIns := [], harness := (true, "2b00bcfef5227532b0669e2b65dd80716b7db78d5947a3dbd7f09b471f34991e"), looks := false }, kinds := [], alts := [], laidByText := true, laidKinds := [.data, .data, .data], laidTests := true, laidLooks := .later }
def FnShrinkBadCardSaid : Prop := Claim7.holds Tryd.pinned (.plain (OpenSpec.ofChange fnShrinkBadSpec)) fnShrinkBadCard

/-- THE TIED CARD OF 'laws.FnSnapshotRight'. -/
def fnSnapshotRightCard : Claim7 := { stood := { row := fnSnapshotRightRow, standIns := [], harness := (true, "2b00bcfef5227532b0669e2b65dd80716b7db78d5947a3dbd7f09b471f34991e"), looks := false }, kinds := [], alts := [], laidByText := true, laidKinds := [.data, .data, .data], laidTests := true, laidLooks := .later }
def FnSnapshotRightCardSaid : Prop := Claim7.holds Tryd.pinned (.plain (OpenSpec.ofChange fnSnapshotRightSpec)) fnSnapshotRightCard

/-- THE TIED CARD OF 'laws.FnFindSnapshot'. -/
def fnFindSnapshotCard : Claim7 := { stood := { row := fnFindSnapshotRow, standIns := [], harness := (true, "2b00bcfef5227532b0669e2b65dd80716b7db78d5947a3dbd7f09b471f34991e"), looks := false }, kinds := [], alts := [], laidByText := true, laidKinds := [.data, .data, .data], laidTests := true, laidLooks := .later }
def FnFindSnapshotCardSaid : Prop := Claim7.holds Tryd.pinned (.plain (OpenSpec.ofChange fnFindSnapshotSpec)) fnFindSnapshotCard

/-- THE TIED CARD OF 'laws.FnStrictRight'. -/
def fnStrictRightCard : Claim7 := { stood := { row := fnStrictRightRow, standIns := [], harness := (true, "2b00bcfef5227532b0669e2b65dd80716b7db78d5947a3dbd7f09b471f34991e"), looks := false }, kinds := [], alts := [], laidByText := true, laidKinds := [.data, .data, .data], laidTests := true, laidLooks := .later }
def FnStrictRightCardSaid : Prop := Claim7.holds Tryd.pinned (.plain (OpenSpec.ofChange fnStrictRightSpec)) fnStrictRightCard

/-- THE TIED CARD OF 'laws.FnVersionOf'. -/
def fnVersionOfCard : Claim7 := { stood := { row := fnVersionOfRow, standIns := [], harness := (true, "2b00bcfef5227532b0669e2b65dd80716b7db78d5947a3dbd7f09b471f34991e"), looks := false }, kinds := [], alts := [], laidByText := true, laidKinds := [.data, .data, .data], laidTests := true, laidLooks := .later }
def FnVersionOfCardSaid : Prop := Claim7.holds Tryd.pinned (.plain (OpenSpec.ofChange fnVersionOfSpec)) fnVersionOfCard

/-- THE TIED CARD OF 'laws.FnSessionBreaks'. -/
def fnSessionBreaksCard : Claim7 := { stood := { row := fnSessionBreaksRow, standIns := [], harness := (true, "2b00bcfef5227532b0669e2b65dd80716b7db78d5947a3dbd7f09b471f34991e"), looks := false }, kinds := [], alts := [], laidByText := true, laidKinds := [.data, .data, .data], laidTests := true, laidLooks := .later }
def FnSessionBreaksCardSaid : Prop := Claim7.holds Tryd.pinned (.plain (OpenSpec.ofChange fnSessionBreaksSpec)) fnSessionBreaksCard

/-- THE SECOND FORM's CARD OF 'laws.FnDropTxn'. -/
def fnDropTxnUptoCard : Claim7 := { stood := { row := fnDropTxnUptoRow, standIns := [], harness := (true, "2b00bcfef5227532b0669e2b65dd80716b7db78d5947a3dbd7f09b471f34991e"), looks := false }, kinds := [], alts := [], laidByText := true, laidKinds := [.data, .data, .data], laidTests := true, laidLooks := .later }
def FnDropTxnUptoCardSaid : Prop := Claim7.holds Tryd.pinned (.plain (OpenSpec.upto fnDropTxnSpec)) fnDropTxnUptoCard

/-- THE SECOND FORM's CARD OF 'laws.FnStrictSession'. -/
def fnStrictSessionUptoCard : Claim7 := { stood := { row := fnStrictSessionUptoRow, standIns := [], harness := (true, "2b00bcfef5227532b0669e2b65dd80716b7db78d5947a3dbd7f09b471f34991e"), looks := false }, kinds := [], alts := [], laidByText := true, laidKinds := [.data, .data, .data], laidTests := true, laidLooks := .later }
def FnStrictSessionUptoCardSaid : Prop := Claim7.holds Tryd.pinned (.plain (OpenSpec.upto fnStrictSessionSpec)) fnStrictSessionUptoCard

/-- THE SECOND FORM's CARD OF 'laws.FnShrinkTwice'. -/
def fnShrinkTwiceUptoCard : Claim7 := { stood := { row := fnShrinkTwiceUptoRow, standIns := [], harness := (true, "2b00bcfef5227532b0669e2b65dd80716b7db78d5947a3dbd7f09b471f34991e"), looks := false }, kinds := [], alts := [], laidByText := true, laidKinds := [.data, .data, .data], laidTests := true, laidLooks := .later }
def FnShrinkTwiceUptoCardSaid : Prop := Claim7.holds Tryd.pinned (.plain (OpenSpec.upto fnShrinkTwiceSpec)) fnShrinkTwiceUptoCard

/-- THE SECOND FORM's CARD OF 'laws.FnShrinkBad'. -/
def fnShrinkBadUptoCard : Claim7 := { stood := { row := fnShrinkBadUptoRow, standIns := [], harness := (true, "2b00bcfef5227532b0669e2b65dd80716b7db78d5947a3dbd7f09b471f34991e"), looks := false }, kinds := [], alts := [], laidByText := true, laidKinds := [.data, .data, .data], laidTests := true, laidLooks := .later }
def FnShrinkBadUptoCardSaid : Prop := Claim7.holds Tryd.pinned (.plain (OpenSpec.upto fnShrinkBadSpec)) fnShrinkBadUptoCard

/-- THE SECOND FORM's CARD OF 'laws.FnSnapshotRight'. -/
def fnSnapshotRightUptoCard : Claim7 := { stood := { row := fnSnapshotRightUptoRow, standIns := [], harness := (true, "2b00bcfef5227532b0669e2b65dd80716b7db78d5947a3dbd7f09b471f34991e"), looks := false }, kinds := [], alts := [], laidByText := true, laidKinds := [.data, .data, .data], laidTests := true, laidLooks := .later }
def FnSnapshotRightUptoCardSaid : Prop := Claim7.holds Tryd.pinned (.plain (OpenSpec.upto fnSnapshotRightSpec)) fnSnapshotRightUptoCard

/-- THE SECOND FORM's CARD OF 'laws.FnFindSnapshot'. -/
def fnFindSnapshotUptoCard : Claim7 := { stood := { row := fnFindSnapshotUptoRow, standIns := [], harness := (true, "2b00bcfef5227532b0669e2b65dd80716b7db78d5947a3dbd7f09b471f34991e"), looks := false }, kinds := [], alts := [], laidByText := true, laidKinds := [.data, .data, .data], laidTests := true, laidLooks := .later }
def FnFindSnapshotUptoCardSaid : Prop := Claim7.holds Tryd.pinned (.plain (OpenSpec.upto fnFindSnapshotSpec)) fnFindSnapshotUptoCard

/-- THE SECOND FORM's CARD OF 'laws.FnStrictRight'. -/
def fnStrictRightUptoCard : Claim7 := { stood := { row := fnStrictRightUptoRow, standIns := [], harness := (true, "2b00bcfef5227532b0669e2b65dd80716b7db78d5947a3dbd7f09b471f34991e"), looks := false }, kinds := [], alts := [], laidByText := true, laidKinds := [.data, .data, .data], laidTests := true, laidLooks := .later }
def FnStrictRightUptoCardSaid : Prop := Claim7.holds Tryd.pinned (.plain (OpenSpec.upto fnStrictRightSpec)) fnStrictRightUptoCard

/-- THE SECOND FORM's CARD OF 'laws.FnVersionOf'. -/
def fnVersionOfUptoCard : Claim7 := { stood := { row := fnVersionOfUptoRow, standIns := [], harness := (true, "2b00bcfef5227532b0669e2b65dd80716b7db78d5947a3dbd7f09b471f34991e"), looks := false }, kinds := [], alts := [], laidByText := true, laidKinds := [.data, .data, .data], laidTests := true, laidLooks := .later }
def FnVersionOfUptoCardSaid : Prop := Claim7.holds Tryd.pinned (.plain (OpenSpec.upto fnVersionOfSpec)) fnVersionOfUptoCard

/-- THE SECOND FORM's CARD OF 'laws.FnSessionBreaks'. -/
def fnSessionBreaksUptoCard : Claim7 := { stood := { row := fnSessionBreaksUptoRow, standIns := [], harness := (true, "2b00bcfef5227532b0669e2b65dd80716b7db78d5947a3dbd7f09b471f34991e"), looks := false }, kinds := [], alts := [], laidByText := true, laidKinds := [.data, .data, .data], laidTests := true, laidLooks := .later }
def FnSessionBreaksUptoCardSaid : Prop := Claim7.holds Tryd.pinned (.plain (OpenSpec.upto fnSessionBreaksSpec)) fnSessionBreaksUptoCard
end Rows
end Go.Proofs.YtaaagoppecnmmaaDoor
