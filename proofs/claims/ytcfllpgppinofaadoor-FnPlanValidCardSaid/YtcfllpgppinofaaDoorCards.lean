/-
  DERIVED. GIVEN WITH THE SEED: THE CARDS: each row of YtcfllpgppinofaaDoorRows.lean that lists a variable, with what it lists TIED to the program's text (the seventh form; the later family's looks); each row that meets fmt, with fmt's text TOLD by the authors' own Lean function (tested against real Go, not proved from fmt's source: count such statements apart). THE CARD IS WHAT COUNTS. Prove the row's statement (the work); the ties are given (YtcfllpgppinofaaDoorTie.lean); close each card by the builder's one call (the guide's Derived/Test/ToyasCard.lean, 'card_holds'). Laid BY PROGRAM, IN A SANDBOX (cutbox-door.mjs). By AI agents, Wed Nov 11 2026. No macro, syntax, notation, axiom, sorry.
-/
import Derived.Test.YtcfllpgppinofaaDoorRows
import GoSem.ClaimSeven
namespace Go.Proofs.YtcfllpgppinofaaDoor
namespace Rows

/-- THE TIED CARD OF 'laws.FnExactLinearRight'. -/
def fnExactLinearRightCard : Claim7 := { stood := { row := fnExactLinearRightRow, standIns := [], harness := (true, "078ab3abec8726063ceaf9548854c27c4599272204f8fcaf2b2d3db31ec61aa9"), looks := false }, kinds := [], alts := [], laidByText := true, laidKinds := [.data, .data], laidTests := true, laidLooks := .later }
def FnExactLinearRightCardSaid : Prop := Claim7.holds Tryd.pinned (.plain (OpenSpec.ofChange fnExactLinearRightSpec)) fnExactLinearRightCard

/-- THE TIED CARD OF 'laws.FnScheduleValid'. -/
def fnScheduleValidCard : Claim7 := { stood := { row := fnScheduleValidRow, standIns := [], harness := (true, "078ab3abec8726063ceaf9548854c27c4599272204f8fcaf2b2d3db31ec61aa9"), looks := false }, kinds := [], alts := [], laidByText := true, laidKinds := [.data, .data, .data], laidTests := true, laidLooks := .later }
def FnScheduleValidCardSaid : Prop := Claim7.holds Tryd.pinned (.plain (OpenSpec.ofChange fnScheduleValidSpec)) fnScheduleValidCard

/-- THE TIED CARD OF 'laws.FnSpansValid'. -/
def fnSpansValidCard : Claim7 := { stood := { row := fnSpansValidRow, standIns := [], harness := (true, "078ab3abec8726063ceaf9548854c27c4599272204f8fcaf2b2d3db31ec61aa9"), looks := false }, kinds := [], alts := [], laidByText := true, laidKinds := [.data, .data, .data], laidTests := true, laidLooks := .later }
def FnSpansValidCardSaid : Prop := Claim7.holds Tryd.pinned (.plain (OpenSpec.ofChange fnSpansValidSpec)) fnSpansValidCard

/-- THE TIED CARD OF 'laws.FnPlanValid'. -/
def fnPlanValidCard : Claim7 := { stood := { row := fnPlanValidRow, standIns := [], harness := (true, "078ab3abec8726063ceaf9548854c27c4599272204f8fcaf2b2d3db31ec61aa9"), looks := false }, kinds := [], alts := [], laidByText := true, laidKinds := [.data, .data, .data], laidTests := true, laidLooks := .later }
def FnPlanValidCardSaid : Prop := Claim7.holds Tryd.pinned (.plain (OpenSpec.ofChange fnPlanValidSpec)) fnPlanValidCard

/-- THE TIED CARD OF 'laws.FnTogetherSpans'. -/
def fnTogetherSpansCard : Claim7 := { stood := { row := fnTogetherSpansRow, standIns := [], harness := (true, "078ab3abec8726063ceaf9548854c27c4599272204f8fcaf2b2d3db31ec61aa9"), looks := false }, kinds := [], alts := [], laidByText := true, laidKinds := [.data, .data, .data], laidTests := true, laidLooks := .later }
def FnTogetherSpansCardSaid : Prop := Claim7.holds Tryd.pinned (.plain (OpenSpec.ofChange fnTogetherSpansSpec)) fnTogetherSpansCard

/-- THE TIED CARD OF 'laws.FnCallsValid'. -/
def fnCallsValidCard : Claim7 := { stood := { row := fnCallsValidRow, standIns := [], harness := (true, "078ab3abec8726063ceaf9548854c27c4599272204f8fcaf2b2d3db31ec61aa9"), looks := false }, kinds := [], alts := [], laidByText := true, laidKinds := [.data, .data, .data], laidTests := true, laidLooks := .later }
def FnCallsValidCardSaid : Prop := Claim7.holds Tryd.pinned (.plain (OpenSpec.ofChange fnCallsValidSpec)) fnCallsValidCard

/-- THE TIED CARD OF 'laws.FnListsValid'. -/
def fnListsValidCard : Claim7 := { stood := { row := fnListsValidRow, standIns := [], harness := (true, "078ab3abec8726063ceaf9548854c27c4599272204f8fcaf2b2d3db31ec61aa9"), looks := false }, kinds := [], alts := [], laidByText := true, laidKinds := [.data, .data, .data], laidTests := true, laidLooks := .later }
def FnListsValidCardSaid : Prop := Claim7.holds Tryd.pinned (.plain (OpenSpec.ofChange fnListsValidSpec)) fnListsValidCard

/-- THE TIED CARD OF 'laws.FnLongestList'. -/
def fnLongestListCard : Claim7 := { stood := { row := fnLongestListRow, standIns := [], harness := (true, "078ab3abec8726063ceaf9548854c27c4599272204f8fcaf2b2d3db31ec61aa9"), looks := false }, kinds := [], alts := [], laidByText := true, laidKinds := [.data, .data, .data], laidTests := true, laidLooks := .later }
def FnLongestListCardSaid : Prop := Claim7.holds Tryd.pinned (.plain (OpenSpec.ofChange fnLongestListSpec)) fnLongestListCard

/-- THE TIED CARD OF 'laws.FnListsAgree'. -/
def fnListsAgreeCard : Claim7 := { stood := { row := fnListsAgreeRow, standIns := [], harness := (true, "078ab3abec8726063ceaf9548854c27c4599272204f8fcaf2b2d3db31ec61aa9"), looks := false }, kinds := [], alts := [], laidByText := true, laidKinds := [.data, .data, .data], laidTests := true, laidLooks := .later }
def FnListsAgreeCardSaid : Prop := Claim7.holds Tryd.pinned (.plain (OpenSpec.ofChange fnListsAgreeSpec)) fnListsAgreeCard

/-- THE TIED CARD OF 'laws.FnListsLess'. -/
def fnListsLessCard : Claim7 := { stood := { row := fnListsLessRow, standIns := [], harness := (true, "078ab3abec8726063ceaf9548854c27c4599272204f8fcaf2b2d3db31ec61aa9"), looks := false }, kinds := [], alts := [], laidByText := true, laidKinds := [.data, .data, .data], laidTests := true, laidLooks := .later }
def FnListsLessCardSaid : Prop := Claim7.holds Tryd.pinned (.plain (OpenSpec.ofChange fnListsLessSpec)) fnListsLessCard

/-- THE SECOND FORM's CARD OF 'laws.FnExactLinearRight'. -/
def fnExactLinearRightUptoCard : Claim7 := { stood := { row := fnExactLinearRightUptoRow, standIns := [], harness := (true, "078ab3abec8726063ceaf9548854c27c4599272204f8fcaf2b2d3db31ec61aa9"), looks := false }, kinds := [], alts := [], laidByText := true, laidKinds := [.data, .data], laidTests := true, laidLooks := .later }
def FnExactLinearRightUptoCardSaid : Prop := Claim7.holds Tryd.pinned (.plain (OpenSpec.upto fnExactLinearRightSpec)) fnExactLinearRightUptoCard

/-- THE SECOND FORM's CARD OF 'laws.FnScheduleValid'. -/
def fnScheduleValidUptoCard : Claim7 := { stood := { row := fnScheduleValidUptoRow, standIns := [], harness := (true, "078ab3abec8726063ceaf9548854c27c4599272204f8fcaf2b2d3db31ec61aa9"), looks := false }, kinds := [], alts := [], laidByText := true, laidKinds := [.data, .data, .data], laidTests := true, laidLooks := .later }
def FnScheduleValidUptoCardSaid : Prop := Claim7.holds Tryd.pinned (.plain (OpenSpec.upto fnScheduleValidSpec)) fnScheduleValidUptoCard

/-- THE SECOND FORM's CARD OF 'laws.FnSpansValid'. -/
def fnSpansValidUptoCard : Claim7 := { stood := { row := fnSpansValidUptoRow, standIns := [], harness := (true, "078ab3abec8726063ceaf9548854c27c4599272204f8fcaf2b2d3db31ec61aa9"), looks := false }, kinds := [], alts := [], laidByText := true, laidKinds := [.data, .data, .data], laidTests := true, laidLooks := .later }
def FnSpansValidUptoCardSaid : Prop := Claim7.holds Tryd.pinned (.plain (OpenSpec.upto fnSpansValidSpec)) fnSpansValidUptoCard

/-- THE SECOND FORM's CARD OF 'laws.FnPlanValid'. -/
def fnPlanValidUptoCard : Claim7 := { stood := { row := fnPlanValidUptoRow, standIns := [], harness := (true, "078ab3abec8726063ceaf9548854c27c4599272204f8fcaf2b2d3db31ec61aa9"), looks := false }, kinds := [], alts := [], laidByText := true, laidKinds := [.data, .data, .data], laidTests := true, laidLooks := .later }
def FnPlanValidUptoCardSaid : Prop := Claim7.holds Tryd.pinned (.plain (OpenSpec.upto fnPlanValidSpec)) fnPlanValidUptoCard

/-- THE SECOND FORM's CARD OF 'laws.FnTogetherSpans'. -/
def fnTogetherSpansUptoCard : Claim7 := { stood := { row := fnTogetherSpansUptoRow, standIns := [], harness := (true, "078ab3abec8726063ceaf9548854c27c4599272204f8fcaf2b2d3db31ec61aa9"), looks := false }, kinds := [], alts := [], laidByText := true, laidKinds := [.data, .data, .data], laidTests := true, laidLooks := .later }
def FnTogetherSpansUptoCardSaid : Prop := Claim7.holds Tryd.pinned (.plain (OpenSpec.upto fnTogetherSpansSpec)) fnTogetherSpansUptoCard

/-- THE SECOND FORM's CARD OF 'laws.FnCallsValid'. -/
def fnCallsValidUptoCard : Claim7 := { stood := { row := fnCallsValidUptoRow, standIns := [], harness := (true, "078ab3abec8726063ceaf9548854c27c4599272204f8fcaf2b2d3db31ec61aa9"), looks := false }, kinds := [], alts := [], laidByText := true, laidKinds := [.data, .data, .data], laidTests := true, laidLooks := .later }
def FnCallsValidUptoCardSaid : Prop := Claim7.holds Tryd.pinned (.plain (OpenSpec.upto fnCallsValidSpec)) fnCallsValidUptoCard

/-- THE SECOND FORM's CARD OF 'laws.FnListsValid'. -/
def fnListsValidUptoCard : Claim7 := { stood := { row := fnListsValidUptoRow, standIns := [], harness := (true, "078ab3abec8726063ceaf9548854c27c4599272204f8fcaf2b2d3db31ec61aa9"), looks := false }, kinds := [], alts := [], laidByText := true, laidKinds := [.data, .data, .data], laidTests := true, laidLooks := .later }
def FnListsValidUptoCardSaid : Prop := Claim7.holds Tryd.pinned (.plain (OpenSpec.upto fnListsValidSpec)) fnListsValidUptoCard

/-- THE SECOND FORM's CARD OF 'laws.FnLongestList'. -/
def fnLongestListUptoCard : Claim7 := { stood := { row := fnLongestListUptoRow, standIns := [], harness := (true, "078ab3abec8726063ceaf9548854c27c4599272204f8fcaf2b2d3db31ec61aa9"), looks := false }, kinds := [], alts := [], laidByText := true, laidKinds := [.data, .data, .data], laidTests := true, laidLooks := .later }
def FnLongestListUptoCardSaid : Prop := Claim7.holds Tryd.pinned (.plain (OpenSpec.upto fnLongestListSpec)) fnLongestListUptoCard

/-- THE SECOND FORM's CARD OF 'laws.FnListsAgree'. -/
def fnListsAgreeUptoCard : Claim7 := { stood := { row := fnListsAgreeUptoRow, standIns := [], harness := (true, "078ab3abec8726063ceaf9548854c27c4599272204f8fcaf2b2d3db31ec61aa9"), looks := false }, kinds := [], alts := [], laidByText := true, laidKinds := [.data, .data, .data], laidTests := true, laidLooks := .later }
def FnListsAgreeUptoCardSaid : Prop := Claim7.holds Tryd.pinned (.plain (OpenSpec.upto fnListsAgreeSpec)) fnListsAgreeUptoCard

/-- THE SECOND FORM's CARD OF 'laws.FnListsLess'. -/
def fnListsLessUptoCard : Claim7 := { stood := { row := fnListsLessUptoRow, standIns := [], harness := (true, "078ab3abec8726063ceaf9548854c27c4599272204f8fcaf2b2d3db31ec61aa9"), looks := false }, kinds := [], alts := [], laidByText := true, laidKinds := [.data, .data, .data], laidTests := true, laidLooks := .later }
def FnListsLessUptoCardSaid : Prop := Claim7.holds Tryd.pinned (.plain (OpenSpec.upto fnListsLessSpec)) fnListsLessUptoCard
end Rows
end Go.Proofs.YtcfllpgppinofaaDoor
