/-
  No cell of these rows narrows 'for every input' (looked for: loops, veiled, ifaces, maps, wideKeys, modest, calm, conditions, laid).
  DERIVED. THE GIVEN ROWS OF THIS SEAT. 10 by the template 'for every input the law returns true; each argument reads behind the call as it read before'; 0 by the template 'total and deterministic' (their statements: YtahjpdagdpngaaaTotals.lean).
  GIVEN WITH THE SEED: the statements are not yours to turn. If you find one false, say at which input.
  Laid BY PROGRAM, IN A SANDBOX (cutbox-rows.mjs): the forced cells as the released guide's own fill.sh prints them over the translation 67e47657726b5990… (all of the seat's roots in one cut). By AI agents, Wed Nov 11 2026. No macro, syntax, notation, axiom, sorry.
-/
import Derived.Test.YtahjpdagdpngaaaChecked
import GoSem.Claim
import GoSem.ClaimJoined
import GoSem.ClaimMapViews
import Derived.JoinedTies
import Derived.KernelRfl
namespace Go.Proofs.Ytahjpdagdpngaaa
/- THE CELL 'sum', in the pinned program and in every row, IS THE sha256 OF THE DUMP (.gsa) THAT YtahjpdagdpngaaaProg.lean LOADS. Nothing in Lean hashes anything: it is a label: what it is worth is what the hold of that sum in a sandbox is worth. -/
noncomputable def Try.pinned : Pinned := { name := "ytahjpdagdpngaaa", sum := "67e47657726b5990af522e18d8fe55d33312aa43363ee9fadd673e807fbdb8c3", checked := Try.checked }
namespace Rows
def none {H : Type} : Left H := { results := [], args := [] }

/-- 'laws.FnExactScheduleValid': WHATEVER THE INPUT: true; the input reads as it did. -/
def fnExactScheduleValidSpec : ChangeSpec := { name := "fnExactScheduleValid", fn := fun _ => fun
  | [d1, d2] => { results := [.lit (.bool true)], args := [d1, d2] }
  | _ => none }
def fnExactScheduleValidRow : OpenClaim := { program := "ytahjpdagdpngaaa", sum := "67e47657726b5990af522e18d8fe55d33312aa43363ee9fadd673e807fbdb8c3", func := "loop.example/historychecker/laws.FnExactScheduleValid", spec := "fnExactScheduleValid", unfollowed := true, recurses := true, apart := false }
def FnExactScheduleValidSaid : Prop := fnExactScheduleValidRow.holds Try.pinned (OpenSpec.ofChange fnExactScheduleValidSpec)

/-- ITS FALSE NEIGHBOUR: 'it returns false'. Refute it at one input. -/
def fnExactScheduleValidWrong : ChangeSpec := { name := "fnExactScheduleValid", fn := fun _ => fun
  | [d1, d2] => { results := [.lit (.bool false)], args := [d1, d2] }
  | _ => none }
def FnExactScheduleValidWrongFalsely : Prop := fnExactScheduleValidRow.holds Try.pinned (OpenSpec.ofChange fnExactScheduleValidWrong)

/-- 'laws.FnExactSpansValid': WHATEVER THE INPUT: true; the input reads as it did. -/
def fnExactSpansValidSpec : ChangeSpec := { name := "fnExactSpansValid", fn := fun _ => fun
  | [d1, d2] => { results := [.lit (.bool true)], args := [d1, d2] }
  | _ => none }
def fnExactSpansValidRow : OpenClaim := { program := "ytahjpdagdpngaaa", sum := "67e47657726b5990af522e18d8fe55d33312aa43363ee9fadd673e807fbdb8c3", func := "loop.example/historychecker/laws.FnExactSpansValid", spec := "fnExactSpansValid", unfollowed := true, recurses := true, apart := false }
def FnExactSpansValidSaid : Prop := fnExactSpansValidRow.holds Try.pinned (OpenSpec.ofChange fnExactSpansValidSpec)

/-- ITS FALSE NEIGHBOUR: 'it returns false'. Refute it at one input. -/
def fnExactSpansValidWrong : ChangeSpec := { name := "fnExactSpansValid", fn := fun _ => fun
  | [d1, d2] => { results := [.lit (.bool false)], args := [d1, d2] }
  | _ => none }
def FnExactSpansValidWrongFalsely : Prop := fnExactSpansValidRow.holds Try.pinned (OpenSpec.ofChange fnExactSpansValidWrong)

/-- 'laws.FnExactTogetherSpans': WHATEVER THE INPUT: true; the input reads as it did. -/
def fnExactTogetherSpansSpec : ChangeSpec := { name := "fnExactTogetherSpans", fn := fun _ => fun
  | [d] => { results := [.lit (.bool true)], args := [d] }
  | _ => none }
def fnExactTogetherSpansRow : OpenClaim := { program := "ytahjpdagdpngaaa", sum := "67e47657726b5990af522e18d8fe55d33312aa43363ee9fadd673e807fbdb8c3", func := "loop.example/historychecker/laws.FnExactTogetherSpans", spec := "fnExactTogetherSpans", unfollowed := true, recurses := true, apart := false }
def FnExactTogetherSpansSaid : Prop := fnExactTogetherSpansRow.holds Try.pinned (OpenSpec.ofChange fnExactTogetherSpansSpec)

/-- ITS FALSE NEIGHBOUR: 'it returns false'. Refute it at one input. -/
def fnExactTogetherSpansWrong : ChangeSpec := { name := "fnExactTogetherSpans", fn := fun _ => fun
  | [d] => { results := [.lit (.bool false)], args := [d] }
  | _ => none }
def FnExactTogetherSpansWrongFalsely : Prop := fnExactTogetherSpansRow.holds Try.pinned (OpenSpec.ofChange fnExactTogetherSpansWrong)

/-- 'laws.FnExactCallsValid': WHATEVER THE INPUT: true; the input reads as it did. -/
def fnExactCallsValidSpec : ChangeSpec := { name := "fnExactCallsValid", fn := fun _ => fun
  | [d] => { results := [.lit (.bool true)], args := [d] }
  | _ => none }
def fnExactCallsValidRow : OpenClaim := { program := "ytahjpdagdpngaaa", sum := "67e47657726b5990af522e18d8fe55d33312aa43363ee9fadd673e807fbdb8c3", func := "loop.example/historychecker/laws.FnExactCallsValid", spec := "fnExactCallsValid", unfollowed := true, recurses := true, apart := false }
def FnExactCallsValidSaid : Prop := fnExactCallsValidRow.holds Try.pinned (OpenSpec.ofChange fnExactCallsValidSpec)

/-- ITS FALSE NEIGHBOUR: 'it returns false'. Refute it at one input. -/
def fnExactCallsValidWrong : ChangeSpec := { name := "fnExactCallsValid", fn := fun _ => fun
  | [d] => { results := [.lit (.bool false)], args := [d] }
  | _ => none }
def FnExactCallsValidWrongFalsely : Prop := fnExactCallsValidRow.holds Try.pinned (OpenSpec.ofChange fnExactCallsValidWrong)

/-- 'laws.FnExactListsValid': WHATEVER THE INPUT: true; the input reads as it did. -/
def fnExactListsValidSpec : ChangeSpec := { name := "fnExactListsValid", fn := fun _ => fun
  | [d] => { results := [.lit (.bool true)], args := [d] }
  | _ => none }
def fnExactListsValidRow : OpenClaim := { program := "ytahjpdagdpngaaa", sum := "67e47657726b5990af522e18d8fe55d33312aa43363ee9fadd673e807fbdb8c3", func := "loop.example/historychecker/laws.FnExactListsValid", spec := "fnExactListsValid", unfollowed := true, recurses := true, apart := false }
def FnExactListsValidSaid : Prop := fnExactListsValidRow.holds Try.pinned (OpenSpec.ofChange fnExactListsValidSpec)

/-- ITS FALSE NEIGHBOUR: 'it returns false'. Refute it at one input. -/
def fnExactListsValidWrong : ChangeSpec := { name := "fnExactListsValid", fn := fun _ => fun
  | [d] => { results := [.lit (.bool false)], args := [d] }
  | _ => none }
def FnExactListsValidWrongFalsely : Prop := fnExactListsValidRow.holds Try.pinned (OpenSpec.ofChange fnExactListsValidWrong)

/-- 'laws.FnExactPlanValid': WHATEVER THE INPUT: true; the input reads as it did. -/
def fnExactPlanValidSpec : ChangeSpec := { name := "fnExactPlanValid", fn := fun _ => fun
  | [d] => { results := [.lit (.bool true)], args := [d] }
  | _ => none }
def fnExactPlanValidRow : OpenClaim := { program := "ytahjpdagdpngaaa", sum := "67e47657726b5990af522e18d8fe55d33312aa43363ee9fadd673e807fbdb8c3", func := "loop.example/historychecker/laws.FnExactPlanValid", spec := "fnExactPlanValid", unfollowed := true, recurses := true, apart := false }
def FnExactPlanValidSaid : Prop := fnExactPlanValidRow.holds Try.pinned (OpenSpec.ofChange fnExactPlanValidSpec)

/-- ITS FALSE NEIGHBOUR: 'it returns false'. Refute it at one input. -/
def fnExactPlanValidWrong : ChangeSpec := { name := "fnExactPlanValid", fn := fun _ => fun
  | [d] => { results := [.lit (.bool false)], args := [d] }
  | _ => none }
def FnExactPlanValidWrongFalsely : Prop := fnExactPlanValidRow.holds Try.pinned (OpenSpec.ofChange fnExactPlanValidWrong)

/-- 'laws.FnExactCycleRight': WHATEVER THE INPUT: true; the input reads as it did. -/
def fnExactCycleRightSpec : ChangeSpec := { name := "fnExactCycleRight", fn := fun _ => fun
  | [d1, d2, d3] => { results := [.lit (.bool true)], args := [d1, d2, d3] }
  | _ => none }
def fnExactCycleRightRow : OpenClaim := { program := "ytahjpdagdpngaaa", sum := "67e47657726b5990af522e18d8fe55d33312aa43363ee9fadd673e807fbdb8c3", func := "loop.example/historychecker/laws.FnExactCycleRight", spec := "fnExactCycleRight", unfollowed := true, recurses := true, apart := false }
def FnExactCycleRightSaid : Prop := fnExactCycleRightRow.holds Try.pinned (OpenSpec.ofChange fnExactCycleRightSpec)

/-- ITS FALSE NEIGHBOUR: 'it returns false'. Refute it at one input. -/
def fnExactCycleRightWrong : ChangeSpec := { name := "fnExactCycleRight", fn := fun _ => fun
  | [d1, d2, d3] => { results := [.lit (.bool false)], args := [d1, d2, d3] }
  | _ => none }
def FnExactCycleRightWrongFalsely : Prop := fnExactCycleRightRow.holds Try.pinned (OpenSpec.ofChange fnExactCycleRightWrong)

/-- 'laws.FnExactListsAgree': WHATEVER THE INPUT: true; the input reads as it did. -/
def fnExactListsAgreeSpec : ChangeSpec := { name := "fnExactListsAgree", fn := fun _ => fun
  | [d] => { results := [.lit (.bool true)], args := [d] }
  | _ => none }
def fnExactListsAgreeRow : OpenClaim := { program := "ytahjpdagdpngaaa", sum := "67e47657726b5990af522e18d8fe55d33312aa43363ee9fadd673e807fbdb8c3", func := "loop.example/historychecker/laws.FnExactListsAgree", spec := "fnExactListsAgree", unfollowed := true, recurses := true, apart := false }
def FnExactListsAgreeSaid : Prop := fnExactListsAgreeRow.holds Try.pinned (OpenSpec.ofChange fnExactListsAgreeSpec)

/-- ITS FALSE NEIGHBOUR: 'it returns false'. Refute it at one input. -/
def fnExactListsAgreeWrong : ChangeSpec := { name := "fnExactListsAgree", fn := fun _ => fun
  | [d] => { results := [.lit (.bool false)], args := [d] }
  | _ => none }
def FnExactListsAgreeWrongFalsely : Prop := fnExactListsAgreeRow.holds Try.pinned (OpenSpec.ofChange fnExactListsAgreeWrong)

/-- 'laws.FnExactLongestList': WHATEVER THE INPUT: true; the input reads as it did. -/
def fnExactLongestListSpec : ChangeSpec := { name := "fnExactLongestList", fn := fun _ => fun
  | [d] => { results := [.lit (.bool true)], args := [d] }
  | _ => none }
def fnExactLongestListRow : OpenClaim := { program := "ytahjpdagdpngaaa", sum := "67e47657726b5990af522e18d8fe55d33312aa43363ee9fadd673e807fbdb8c3", func := "loop.example/historychecker/laws.FnExactLongestList", spec := "fnExactLongestList", unfollowed := true, recurses := true, apart := false }
def FnExactLongestListSaid : Prop := fnExactLongestListRow.holds Try.pinned (OpenSpec.ofChange fnExactLongestListSpec)

/-- ITS FALSE NEIGHBOUR: 'it returns false'. Refute it at one input. -/
def fnExactLongestListWrong : ChangeSpec := { name := "fnExactLongestList", fn := fun _ => fun
  | [d] => { results := [.lit (.bool false)], args := [d] }
  | _ => none }
def FnExactLongestListWrongFalsely : Prop := fnExactLongestListRow.holds Try.pinned (OpenSpec.ofChange fnExactLongestListWrong)

/-- 'laws.FnExactOrderOfLists': WHATEVER THE INPUT: true; the input reads as it did. -/
def fnExactOrderOfListsSpec : ChangeSpec := { name := "fnExactOrderOfLists", fn := fun _ => fun
  | [d] => { results := [.lit (.bool true)], args := [d] }
  | _ => none }
def fnExactOrderOfListsRow : OpenClaim := { program := "ytahjpdagdpngaaa", sum := "67e47657726b5990af522e18d8fe55d33312aa43363ee9fadd673e807fbdb8c3", func := "loop.example/historychecker/laws.FnExactOrderOfLists", spec := "fnExactOrderOfLists", unfollowed := true, recurses := true, apart := false }
def FnExactOrderOfListsSaid : Prop := fnExactOrderOfListsRow.holds Try.pinned (OpenSpec.ofChange fnExactOrderOfListsSpec)

/-- ITS FALSE NEIGHBOUR: 'it returns false'. Refute it at one input. -/
def fnExactOrderOfListsWrong : ChangeSpec := { name := "fnExactOrderOfLists", fn := fun _ => fun
  | [d] => { results := [.lit (.bool false)], args := [d] }
  | _ => none }
def FnExactOrderOfListsWrongFalsely : Prop := fnExactOrderOfListsRow.holds Try.pinned (OpenSpec.ofChange fnExactOrderOfListsWrong)

/- THE SECOND FORM. 'bulk': how many values and letters a reading holds, each counted each time it is reached (what is shared counts as often as it is met; a slice's spare places count too). A statement '..UptoSaid' is the law's where the arguments, and the package variables that the reading takes, are together of bulk at most 1048576: NARROWER than '..Said'. Prove '..Said' where nothing that the law and all that it calls make is longer than what came in: it says more and counts as full. Else prove '..UptoSaid'. A law counts once. -/
mutual
def uptoBulk {H : Type} : DataW H → Nat
  | .lit (.string bytes) => bytes.length + 1
  | .lit _ => 1
  | .nil => 1
  | .ptr d => uptoBulk d + 1
  | .slice elems spare => uptoBulkAll elems + uptoBulkAll spare + 1
  | .agg parts => uptoBulkAll parts + 1
  | .iface _ d => uptoBulk d + 1
  | .map entries => uptoBulkEntries entries + 1
  | .held _ => 1
def uptoBulkAll {H : Type} : List (DataW H) → Nat
  | [] => 0
  | d :: r => uptoBulk d + uptoBulkAll r
def uptoBulkEntries {H : Type} : List (Lit × DataW H) → Nat
  | [] => 0
  | x :: r => uptoBulkEntry x + uptoBulkEntries r
def uptoBulkEntry {H : Type} : Lit × DataW H → Nat
  | (.string bytes, d) => bytes.length + uptoBulk d + 1
  | (_, d) => uptoBulk d + 1
 end
def uptoSmall : (H : Type) → List (DataW H) → Bool := fun _ ds => decide (uptoBulkAll ds ≤ 1048576)
def OpenSpec.upto (s : _root_.Go.ChangeSpec) : _root_.Go.OpenSpec := { _root_.Go.OpenSpec.ofChange s with cond := some uptoSmall }

/-- 'laws.FnExactScheduleValid', WHERE WHAT IT READS IS OF BULK AT MOST 1048576: true; the input reads as it did. -/
def fnExactScheduleValidUptoRow : OpenClaim := { program := "ytahjpdagdpngaaa", sum := "67e47657726b5990af522e18d8fe55d33312aa43363ee9fadd673e807fbdb8c3", func := "loop.example/historychecker/laws.FnExactScheduleValid", spec := "fnExactScheduleValid", unfollowed := true, recurses := true, apart := false, narrowed := true }
def FnExactScheduleValidUptoSaid : Prop := fnExactScheduleValidUptoRow.holds Try.pinned (OpenSpec.upto fnExactScheduleValidSpec)

/-- 'laws.FnExactSpansValid', WHERE WHAT IT READS IS OF BULK AT MOST 1048576: true; the input reads as it did. -/
def fnExactSpansValidUptoRow : OpenClaim := { program := "ytahjpdagdpngaaa", sum := "67e47657726b5990af522e18d8fe55d33312aa43363ee9fadd673e807fbdb8c3", func := "loop.example/historychecker/laws.FnExactSpansValid", spec := "fnExactSpansValid", unfollowed := true, recurses := true, apart := false, narrowed := true }
def FnExactSpansValidUptoSaid : Prop := fnExactSpansValidUptoRow.holds Try.pinned (OpenSpec.upto fnExactSpansValidSpec)

/-- 'laws.FnExactTogetherSpans', WHERE WHAT IT READS IS OF BULK AT MOST 1048576: true; the input reads as it did. -/
def fnExactTogetherSpansUptoRow : OpenClaim := { program := "ytahjpdagdpngaaa", sum := "67e47657726b5990af522e18d8fe55d33312aa43363ee9fadd673e807fbdb8c3", func := "loop.example/historychecker/laws.FnExactTogetherSpans", spec := "fnExactTogetherSpans", unfollowed := true, recurses := true, apart := false, narrowed := true }
def FnExactTogetherSpansUptoSaid : Prop := fnExactTogetherSpansUptoRow.holds Try.pinned (OpenSpec.upto fnExactTogetherSpansSpec)

/-- 'laws.FnExactCallsValid', WHERE WHAT IT READS IS OF BULK AT MOST 1048576: true; the input reads as it did. -/
def fnExactCallsValidUptoRow : OpenClaim := { program := "ytahjpdagdpngaaa", sum := "67e47657726b5990af522e18d8fe55d33312aa43363ee9fadd673e807fbdb8c3", func := "loop.example/historychecker/laws.FnExactCallsValid", spec := "fnExactCallsValid", unfollowed := true, recurses := true, apart := false, narrowed := true }
def FnExactCallsValidUptoSaid : Prop := fnExactCallsValidUptoRow.holds Try.pinned (OpenSpec.upto fnExactCallsValidSpec)

/-- 'laws.FnExactListsValid', WHERE WHAT IT READS IS OF BULK AT MOST 1048576: true; the input reads as it did. -/
def fnExactListsValidUptoRow : OpenClaim := { program := "ytahjpdagdpngaaa", sum := "67e47657726b5990af522e18d8fe55d33312aa43363ee9fadd673e807fbdb8c3", func := "loop.example/historychecker/laws.FnExactListsValid", spec := "fnExactListsValid", unfollowed := true, recurses := true, apart := false, narrowed := true }
def FnExactListsValidUptoSaid : Prop := fnExactListsValidUptoRow.holds Try.pinned (OpenSpec.upto fnExactListsValidSpec)

/-- 'laws.FnExactPlanValid', WHERE WHAT IT READS IS OF BULK AT MOST 1048576: true; the input reads as it did. -/
def fnExactPlanValidUptoRow : OpenClaim := { program := "ytahjpdagdpngaaa", sum := "67e47657726b5990af522e18d8fe55d33312aa43363ee9fadd673e807fbdb8c3", func := "loop.example/historychecker/laws.FnExactPlanValid", spec := "fnExactPlanValid", unfollowed := true, recurses := true, apart := false, narrowed := true }
def FnExactPlanValidUptoSaid : Prop := fnExactPlanValidUptoRow.holds Try.pinned (OpenSpec.upto fnExactPlanValidSpec)

/-- 'laws.FnExactCycleRight', WHERE WHAT IT READS IS OF BULK AT MOST 1048576: true; the input reads as it did. -/
def fnExactCycleRightUptoRow : OpenClaim := { program := "ytahjpdagdpngaaa", sum := "67e47657726b5990af522e18d8fe55d33312aa43363ee9fadd673e807fbdb8c3", func := "loop.example/historychecker/laws.FnExactCycleRight", spec := "fnExactCycleRight", unfollowed := true, recurses := true, apart := false, narrowed := true }
def FnExactCycleRightUptoSaid : Prop := fnExactCycleRightUptoRow.holds Try.pinned (OpenSpec.upto fnExactCycleRightSpec)

/-- 'laws.FnExactListsAgree', WHERE WHAT IT READS IS OF BULK AT MOST 1048576: true; the input reads as it did. -/
def fnExactListsAgreeUptoRow : OpenClaim := { program := "ytahjpdagdpngaaa", sum := "67e47657726b5990af522e18d8fe55d33312aa43363ee9fadd673e807fbdb8c3", func := "loop.example/historychecker/laws.FnExactListsAgree", spec := "fnExactListsAgree", unfollowed := true, recurses := true, apart := false, narrowed := true }
def FnExactListsAgreeUptoSaid : Prop := fnExactListsAgreeUptoRow.holds Try.pinned (OpenSpec.upto fnExactListsAgreeSpec)

/-- 'laws.FnExactLongestList', WHERE WHAT IT READS IS OF BULK AT MOST 1048576: true; the input reads as it did. -/
def fnExactLongestListUptoRow : OpenClaim := { program := "ytahjpdagdpngaaa", sum := "67e47657726b5990af522e18d8fe55d33312aa43363ee9fadd673e807fbdb8c3", func := "loop.example/historychecker/laws.FnExactLongestList", spec := "fnExactLongestList", unfollowed := true, recurses := true, apart := false, narrowed := true }
def FnExactLongestListUptoSaid : Prop := fnExactLongestListUptoRow.holds Try.pinned (OpenSpec.upto fnExactLongestListSpec)

/-- 'laws.FnExactOrderOfLists', WHERE WHAT IT READS IS OF BULK AT MOST 1048576: true; the input reads as it did. -/
def fnExactOrderOfListsUptoRow : OpenClaim := { program := "ytahjpdagdpngaaa", sum := "67e47657726b5990af522e18d8fe55d33312aa43363ee9fadd673e807fbdb8c3", func := "loop.example/historychecker/laws.FnExactOrderOfLists", spec := "fnExactOrderOfLists", unfollowed := true, recurses := true, apart := false, narrowed := true }
def FnExactOrderOfListsUptoSaid : Prop := fnExactOrderOfListsUptoRow.holds Try.pinned (OpenSpec.upto fnExactOrderOfListsSpec)

end Rows
end Go.Proofs.Ytahjpdagdpngaaa
