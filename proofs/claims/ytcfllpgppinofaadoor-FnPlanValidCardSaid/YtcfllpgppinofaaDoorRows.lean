/-
  NARROWER THAN 'FOR EVERY INPUT', by the rows' own cells (each row's printed sentence says how): FnExactLinearRight: laid · FnScheduleValid: laid · FnSpansValid: laid · FnPlanValid: laid · FnTogetherSpans: laid · FnCallsValid: laid · FnListsValid: laid · FnLongestList: laid · FnListsAgree: laid · FnListsLess: laid.
  DERIVED. THE GIVEN ROWS OF THIS SEAT. 10 by the template 'for every input the law returns true; each argument reads behind the call as it read before'; 0 by the template 'total and deterministic' (their statements: YtcfllpgppinofaaDoorTotals.lean).
  GIVEN WITH THE SEED: the statements are not yours to turn. If you find one false, say at which input.
  Laid BY PROGRAM, IN A SANDBOX (cutbox-rows.mjs): the forced cells as the released guide's own fill.sh prints them over the translation ac82a72cdb9e8d03… (all of the seat's roots in one cut). By AI agents, Wed Nov 11 2026. No macro, syntax, notation, axiom, sorry.
-/
import Derived.Test.YtcfllpgppinofaaDoorChecked
import GoSem.Claim
import GoSem.ClaimJoined
import GoSem.ClaimMapViews
import Derived.JoinedTies
import Derived.KernelRfl
namespace Go.Proofs.YtcfllpgppinofaaDoor
/- THE CELL 'sum', in the pinned program and in every row, IS THE sha256 OF THE DUMP (.gsa) THAT YtcfllpgppinofaaDoorProg.lean LOADS. Nothing in Lean hashes anything: it is a label: what it is worth is what the hold of that sum in a sandbox is worth. -/
noncomputable def Tryd.pinned : Pinned := { name := "ytcfllpgppinofaadoor", sum := "ac82a72cdb9e8d037b286d09cb42855ab8fc2b1da754bb5441a9714d24c68ee4", checked := Tryd.checked }
namespace Rows
def none {H : Type} : Left H := { results := [], args := [] }

/- WHAT THE LISTED PACKAGE-LEVEL VARIABLES READ AS WHEN THE CALL BEGINS. Each datum BY PROGRAM (the guide's laid-datum.mjs) off the statement by which the dump's own 'gosem.cut.vars' lays the variable. In a bare row this is a premise. The card (YtcfllpgppinofaaDoorCards.lean) ties it to the program's text. -/
def laid_math_bits_deBruijn32tab {H : Type} : DataW H := .agg [.lit (.int .u8 0), .lit (.int .u8 1), .lit (.int .u8 28), .lit (.int .u8 2), .lit (.int .u8 29), .lit (.int .u8 14), .lit (.int .u8 24), .lit (.int .u8 3), .lit (.int .u8 30), .lit (.int .u8 22), .lit (.int .u8 20), .lit (.int .u8 15), .lit (.int .u8 25), .lit (.int .u8 17), .lit (.int .u8 4), .lit (.int .u8 8), .lit (.int .u8 31), .lit (.int .u8 27), .lit (.int .u8 13), .lit (.int .u8 23), .lit (.int .u8 21), .lit (.int .u8 19), .lit (.int .u8 16), .lit (.int .u8 7), .lit (.int .u8 26), .lit (.int .u8 12), .lit (.int .u8 18), .lit (.int .u8 6), .lit (.int .u8 11), .lit (.int .u8 5), .lit (.int .u8 10), .lit (.int .u8 9)]
def laid_math_bits_deBruijn64tab {H : Type} : DataW H := .agg [.lit (.int .u8 0), .lit (.int .u8 1), .lit (.int .u8 56), .lit (.int .u8 2), .lit (.int .u8 57), .lit (.int .u8 49), .lit (.int .u8 28), .lit (.int .u8 3), .lit (.int .u8 61), .lit (.int .u8 58), .lit (.int .u8 42), .lit (.int .u8 50), .lit (.int .u8 38), .lit (.int .u8 29), .lit (.int .u8 17), .lit (.int .u8 4), .lit (.int .u8 62), .lit (.int .u8 47), .lit (.int .u8 59), .lit (.int .u8 36), .lit (.int .u8 45), .lit (.int .u8 43), .lit (.int .u8 51), .lit (.int .u8 22), .lit (.int .u8 53), .lit (.int .u8 39), .lit (.int .u8 33), .lit (.int .u8 30), .lit (.int .u8 24), .lit (.int .u8 18), .lit (.int .u8 12), .lit (.int .u8 5), .lit (.int .u8 63), .lit (.int .u8 55), .lit (.int .u8 48), .lit (.int .u8 27), .lit (.int .u8 60), .lit (.int .u8 41), .lit (.int .u8 37), .lit (.int .u8 16), .lit (.int .u8 46), .lit (.int .u8 35), .lit (.int .u8 44), .lit (.int .u8 21), .lit (.int .u8 52), .lit (.int .u8 32), .lit (.int .u8 23), .lit (.int .u8 11), .lit (.int .u8 54), .lit (.int .u8 26), .lit (.int .u8 40), .lit (.int .u8 15), .lit (.int .u8 34), .lit (.int .u8 20), .lit (.int .u8 31), .lit (.int .u8 10), .lit (.int .u8 25), .lit (.int .u8 14), .lit (.int .u8 19), .lit (.int .u8 9), .lit (.int .u8 13), .lit (.int .u8 8), .lit (.int .u8 7), .lit (.int .u8 6)]
def laid_internal_strconv_uint64pow10 {H : Type} : DataW H := .agg [.lit (.int .u64 1), .lit (.int .u64 10), .lit (.int .u64 100), .lit (.int .u64 1000), .lit (.int .u64 10000), .lit (.int .u64 100000), .lit (.int .u64 1000000), .lit (.int .u64 10000000), .lit (.int .u64 100000000), .lit (.int .u64 1000000000), .lit (.int .u64 10000000000), .lit (.int .u64 100000000000), .lit (.int .u64 1000000000000), .lit (.int .u64 10000000000000), .lit (.int .u64 100000000000000), .lit (.int .u64 1000000000000000), .lit (.int .u64 10000000000000000), .lit (.int .u64 100000000000000000), .lit (.int .u64 1000000000000000000), .lit (.int .u64 10000000000000000000)]

/-- 'laws.FnExactLinearRight': WHATEVER THE INPUT: true; the input reads as it did. -/
def fnExactLinearRightSpec : ChangeSpec := { name := "fnExactLinearRight", fn := fun _ => fun
  | [d1, d2] => { results := [.lit (.bool true)], args := [d1, d2] }
  | _ => none }
def fnExactLinearRightRow : OpenClaim := { program := "ytcfllpgppinofaadoor", sum := "ac82a72cdb9e8d037b286d09cb42855ab8fc2b1da754bb5441a9714d24c68ee4", func := "loop.example/historychecker/laws.FnExactLinearRight", spec := "fnExactLinearRight", unfollowed := true, recurses := true, named := ["math/bits.deBruijn32tab", "math/bits.deBruijn64tab"], apart := false, laid := [("math/bits.deBruijn32tab", laid_math_bits_deBruijn32tab), ("math/bits.deBruijn64tab", laid_math_bits_deBruijn64tab)] }
def FnExactLinearRightSaid : Prop := fnExactLinearRightRow.holds Tryd.pinned (OpenSpec.ofChange fnExactLinearRightSpec)

/-- ITS FALSE NEIGHBOUR: 'it returns false'. Refute it at one input. -/
def fnExactLinearRightWrong : ChangeSpec := { name := "fnExactLinearRight", fn := fun _ => fun
  | [d1, d2] => { results := [.lit (.bool false)], args := [d1, d2] }
  | _ => none }
def FnExactLinearRightWrongFalsely : Prop := fnExactLinearRightRow.holds Tryd.pinned (OpenSpec.ofChange fnExactLinearRightWrong)

/-- 'laws.FnScheduleValid': WHATEVER THE INPUT: true; the input reads as it did. -/
def fnScheduleValidSpec : ChangeSpec := { name := "fnScheduleValid", fn := fun _ => fun
  | [d] => { results := [.lit (.bool true)], args := [d] }
  | _ => none }
def fnScheduleValidRow : OpenClaim := { program := "ytcfllpgppinofaadoor", sum := "ac82a72cdb9e8d037b286d09cb42855ab8fc2b1da754bb5441a9714d24c68ee4", func := "loop.example/historychecker/laws.FnScheduleValid", spec := "fnScheduleValid", unfollowed := true, recurses := true, named := ["internal/strconv.uint64pow10", "math/bits.deBruijn32tab", "math/bits.deBruijn64tab"], apart := false, laid := [("math/bits.deBruijn32tab", laid_math_bits_deBruijn32tab), ("math/bits.deBruijn64tab", laid_math_bits_deBruijn64tab), ("internal/strconv.uint64pow10", laid_internal_strconv_uint64pow10)] }
def FnScheduleValidSaid : Prop := fnScheduleValidRow.holds Tryd.pinned (OpenSpec.ofChange fnScheduleValidSpec)

/-- ITS FALSE NEIGHBOUR: 'it returns false'. Refute it at one input. -/
def fnScheduleValidWrong : ChangeSpec := { name := "fnScheduleValid", fn := fun _ => fun
  | [d] => { results := [.lit (.bool false)], args := [d] }
  | _ => none }
def FnScheduleValidWrongFalsely : Prop := fnScheduleValidRow.holds Tryd.pinned (OpenSpec.ofChange fnScheduleValidWrong)

/-- 'laws.FnSpansValid': WHATEVER THE INPUT: true; the input reads as it did. -/
def fnSpansValidSpec : ChangeSpec := { name := "fnSpansValid", fn := fun _ => fun
  | [d] => { results := [.lit (.bool true)], args := [d] }
  | _ => none }
def fnSpansValidRow : OpenClaim := { program := "ytcfllpgppinofaadoor", sum := "ac82a72cdb9e8d037b286d09cb42855ab8fc2b1da754bb5441a9714d24c68ee4", func := "loop.example/historychecker/laws.FnSpansValid", spec := "fnSpansValid", unfollowed := true, recurses := true, named := ["internal/strconv.uint64pow10", "math/bits.deBruijn32tab", "math/bits.deBruijn64tab"], apart := false, laid := [("math/bits.deBruijn32tab", laid_math_bits_deBruijn32tab), ("math/bits.deBruijn64tab", laid_math_bits_deBruijn64tab), ("internal/strconv.uint64pow10", laid_internal_strconv_uint64pow10)] }
def FnSpansValidSaid : Prop := fnSpansValidRow.holds Tryd.pinned (OpenSpec.ofChange fnSpansValidSpec)

/-- ITS FALSE NEIGHBOUR: 'it returns false'. Refute it at one input. -/
def fnSpansValidWrong : ChangeSpec := { name := "fnSpansValid", fn := fun _ => fun
  | [d] => { results := [.lit (.bool false)], args := [d] }
  | _ => none }
def FnSpansValidWrongFalsely : Prop := fnSpansValidRow.holds Tryd.pinned (OpenSpec.ofChange fnSpansValidWrong)

/-- 'laws.FnPlanValid': WHATEVER THE INPUT: true; the input reads as it did. -/
def fnPlanValidSpec : ChangeSpec := { name := "fnPlanValid", fn := fun _ => fun
  | [d] => { results := [.lit (.bool true)], args := [d] }
  | _ => none }
def fnPlanValidRow : OpenClaim := { program := "ytcfllpgppinofaadoor", sum := "ac82a72cdb9e8d037b286d09cb42855ab8fc2b1da754bb5441a9714d24c68ee4", func := "loop.example/historychecker/laws.FnPlanValid", spec := "fnPlanValid", unfollowed := true, recurses := true, named := ["internal/strconv.uint64pow10", "math/bits.deBruijn32tab", "math/bits.deBruijn64tab"], apart := false, laid := [("math/bits.deBruijn32tab", laid_math_bits_deBruijn32tab), ("math/bits.deBruijn64tab", laid_math_bits_deBruijn64tab), ("internal/strconv.uint64pow10", laid_internal_strconv_uint64pow10)] }
def FnPlanValidSaid : Prop := fnPlanValidRow.holds Tryd.pinned (OpenSpec.ofChange fnPlanValidSpec)

/-- ITS FALSE NEIGHBOUR: 'it returns false'. Refute it at one input. -/
def fnPlanValidWrong : ChangeSpec := { name := "fnPlanValid", fn := fun _ => fun
  | [d] => { results := [.lit (.bool false)], args := [d] }
  | _ => none }
def FnPlanValidWrongFalsely : Prop := fnPlanValidRow.holds Tryd.pinned (OpenSpec.ofChange fnPlanValidWrong)

/-- 'laws.FnTogetherSpans': WHATEVER THE INPUT: true; the input reads as it did. -/
def fnTogetherSpansSpec : ChangeSpec := { name := "fnTogetherSpans", fn := fun _ => fun
  | [d] => { results := [.lit (.bool true)], args := [d] }
  | _ => none }
def fnTogetherSpansRow : OpenClaim := { program := "ytcfllpgppinofaadoor", sum := "ac82a72cdb9e8d037b286d09cb42855ab8fc2b1da754bb5441a9714d24c68ee4", func := "loop.example/historychecker/laws.FnTogetherSpans", spec := "fnTogetherSpans", unfollowed := true, recurses := true, named := ["internal/strconv.uint64pow10", "math/bits.deBruijn32tab", "math/bits.deBruijn64tab"], apart := false, laid := [("math/bits.deBruijn32tab", laid_math_bits_deBruijn32tab), ("math/bits.deBruijn64tab", laid_math_bits_deBruijn64tab), ("internal/strconv.uint64pow10", laid_internal_strconv_uint64pow10)] }
def FnTogetherSpansSaid : Prop := fnTogetherSpansRow.holds Tryd.pinned (OpenSpec.ofChange fnTogetherSpansSpec)

/-- ITS FALSE NEIGHBOUR: 'it returns false'. Refute it at one input. -/
def fnTogetherSpansWrong : ChangeSpec := { name := "fnTogetherSpans", fn := fun _ => fun
  | [d] => { results := [.lit (.bool false)], args := [d] }
  | _ => none }
def FnTogetherSpansWrongFalsely : Prop := fnTogetherSpansRow.holds Tryd.pinned (OpenSpec.ofChange fnTogetherSpansWrong)

/-- 'laws.FnCallsValid': WHATEVER THE INPUT: true; the input reads as it did. -/
def fnCallsValidSpec : ChangeSpec := { name := "fnCallsValid", fn := fun _ => fun
  | [d] => { results := [.lit (.bool true)], args := [d] }
  | _ => none }
def fnCallsValidRow : OpenClaim := { program := "ytcfllpgppinofaadoor", sum := "ac82a72cdb9e8d037b286d09cb42855ab8fc2b1da754bb5441a9714d24c68ee4", func := "loop.example/historychecker/laws.FnCallsValid", spec := "fnCallsValid", unfollowed := true, recurses := true, named := ["internal/strconv.uint64pow10", "math/bits.deBruijn32tab", "math/bits.deBruijn64tab"], apart := false, laid := [("math/bits.deBruijn32tab", laid_math_bits_deBruijn32tab), ("math/bits.deBruijn64tab", laid_math_bits_deBruijn64tab), ("internal/strconv.uint64pow10", laid_internal_strconv_uint64pow10)] }
def FnCallsValidSaid : Prop := fnCallsValidRow.holds Tryd.pinned (OpenSpec.ofChange fnCallsValidSpec)

/-- ITS FALSE NEIGHBOUR: 'it returns false'. Refute it at one input. -/
def fnCallsValidWrong : ChangeSpec := { name := "fnCallsValid", fn := fun _ => fun
  | [d] => { results := [.lit (.bool false)], args := [d] }
  | _ => none }
def FnCallsValidWrongFalsely : Prop := fnCallsValidRow.holds Tryd.pinned (OpenSpec.ofChange fnCallsValidWrong)

/-- 'laws.FnListsValid': WHATEVER THE INPUT: true; the input reads as it did. -/
def fnListsValidSpec : ChangeSpec := { name := "fnListsValid", fn := fun _ => fun
  | [d] => { results := [.lit (.bool true)], args := [d] }
  | _ => none }
def fnListsValidRow : OpenClaim := { program := "ytcfllpgppinofaadoor", sum := "ac82a72cdb9e8d037b286d09cb42855ab8fc2b1da754bb5441a9714d24c68ee4", func := "loop.example/historychecker/laws.FnListsValid", spec := "fnListsValid", unfollowed := true, recurses := true, named := ["internal/strconv.uint64pow10", "math/bits.deBruijn32tab", "math/bits.deBruijn64tab"], apart := false, laid := [("math/bits.deBruijn32tab", laid_math_bits_deBruijn32tab), ("math/bits.deBruijn64tab", laid_math_bits_deBruijn64tab), ("internal/strconv.uint64pow10", laid_internal_strconv_uint64pow10)] }
def FnListsValidSaid : Prop := fnListsValidRow.holds Tryd.pinned (OpenSpec.ofChange fnListsValidSpec)

/-- ITS FALSE NEIGHBOUR: 'it returns false'. Refute it at one input. -/
def fnListsValidWrong : ChangeSpec := { name := "fnListsValid", fn := fun _ => fun
  | [d] => { results := [.lit (.bool false)], args := [d] }
  | _ => none }
def FnListsValidWrongFalsely : Prop := fnListsValidRow.holds Tryd.pinned (OpenSpec.ofChange fnListsValidWrong)

/-- 'laws.FnLongestList': WHATEVER THE INPUT: true; the input reads as it did. -/
def fnLongestListSpec : ChangeSpec := { name := "fnLongestList", fn := fun _ => fun
  | [d] => { results := [.lit (.bool true)], args := [d] }
  | _ => none }
def fnLongestListRow : OpenClaim := { program := "ytcfllpgppinofaadoor", sum := "ac82a72cdb9e8d037b286d09cb42855ab8fc2b1da754bb5441a9714d24c68ee4", func := "loop.example/historychecker/laws.FnLongestList", spec := "fnLongestList", unfollowed := true, recurses := true, named := ["internal/strconv.uint64pow10", "math/bits.deBruijn32tab", "math/bits.deBruijn64tab"], apart := false, laid := [("math/bits.deBruijn32tab", laid_math_bits_deBruijn32tab), ("math/bits.deBruijn64tab", laid_math_bits_deBruijn64tab), ("internal/strconv.uint64pow10", laid_internal_strconv_uint64pow10)] }
def FnLongestListSaid : Prop := fnLongestListRow.holds Tryd.pinned (OpenSpec.ofChange fnLongestListSpec)

/-- ITS FALSE NEIGHBOUR: 'it returns false'. Refute it at one input. -/
def fnLongestListWrong : ChangeSpec := { name := "fnLongestList", fn := fun _ => fun
  | [d] => { results := [.lit (.bool false)], args := [d] }
  | _ => none }
def FnLongestListWrongFalsely : Prop := fnLongestListRow.holds Tryd.pinned (OpenSpec.ofChange fnLongestListWrong)

/-- 'laws.FnListsAgree': WHATEVER THE INPUT: true; the input reads as it did. -/
def fnListsAgreeSpec : ChangeSpec := { name := "fnListsAgree", fn := fun _ => fun
  | [d] => { results := [.lit (.bool true)], args := [d] }
  | _ => none }
def fnListsAgreeRow : OpenClaim := { program := "ytcfllpgppinofaadoor", sum := "ac82a72cdb9e8d037b286d09cb42855ab8fc2b1da754bb5441a9714d24c68ee4", func := "loop.example/historychecker/laws.FnListsAgree", spec := "fnListsAgree", unfollowed := true, recurses := true, named := ["internal/strconv.uint64pow10", "math/bits.deBruijn32tab", "math/bits.deBruijn64tab"], apart := false, laid := [("math/bits.deBruijn32tab", laid_math_bits_deBruijn32tab), ("math/bits.deBruijn64tab", laid_math_bits_deBruijn64tab), ("internal/strconv.uint64pow10", laid_internal_strconv_uint64pow10)] }
def FnListsAgreeSaid : Prop := fnListsAgreeRow.holds Tryd.pinned (OpenSpec.ofChange fnListsAgreeSpec)

/-- ITS FALSE NEIGHBOUR: 'it returns false'. Refute it at one input. -/
def fnListsAgreeWrong : ChangeSpec := { name := "fnListsAgree", fn := fun _ => fun
  | [d] => { results := [.lit (.bool false)], args := [d] }
  | _ => none }
def FnListsAgreeWrongFalsely : Prop := fnListsAgreeRow.holds Tryd.pinned (OpenSpec.ofChange fnListsAgreeWrong)

/-- 'laws.FnListsLess': WHATEVER THE INPUT: true; the input reads as it did. -/
def fnListsLessSpec : ChangeSpec := { name := "fnListsLess", fn := fun _ => fun
  | [d] => { results := [.lit (.bool true)], args := [d] }
  | _ => none }
def fnListsLessRow : OpenClaim := { program := "ytcfllpgppinofaadoor", sum := "ac82a72cdb9e8d037b286d09cb42855ab8fc2b1da754bb5441a9714d24c68ee4", func := "loop.example/historychecker/laws.FnListsLess", spec := "fnListsLess", unfollowed := true, recurses := true, named := ["internal/strconv.uint64pow10", "math/bits.deBruijn32tab", "math/bits.deBruijn64tab"], apart := false, laid := [("math/bits.deBruijn32tab", laid_math_bits_deBruijn32tab), ("math/bits.deBruijn64tab", laid_math_bits_deBruijn64tab), ("internal/strconv.uint64pow10", laid_internal_strconv_uint64pow10)] }
def FnListsLessSaid : Prop := fnListsLessRow.holds Tryd.pinned (OpenSpec.ofChange fnListsLessSpec)

/-- ITS FALSE NEIGHBOUR: 'it returns false'. Refute it at one input. -/
def fnListsLessWrong : ChangeSpec := { name := "fnListsLess", fn := fun _ => fun
  | [d] => { results := [.lit (.bool false)], args := [d] }
  | _ => none }
def FnListsLessWrongFalsely : Prop := fnListsLessRow.holds Tryd.pinned (OpenSpec.ofChange fnListsLessWrong)

/- THE SECOND FORM. 'bulk': how many values and letters a reading holds, each counted each time it is reached (what is shared counts as often as it is met; a slice's spare places count too). A statement '..UptoSaid' is the law's where the arguments, and the package variables that the reading takes, are together of bulk at most 1048576: NARROWER than '..Said'. Prove '..Said' where nothing that the law and all that it calls make is longer than what came in: it says more and counts as full. Else prove '..UptoSaid'. A law counts once. -/
mutual
def uptoBulk {H : Type} : DataW H → Nat
  | .lit (.string bytes) => bytes.length + 1
  | .lit _ => 1
  | .nil => 1
  | .ptr d => uptoBulk d + 1
  | .slice elems spare => uptoBulkAll elems + uptoBulkAll spare + 1
  | .agg parts => uptoBulkAll parts + 1
  | .iface _ d => uptoBulk d + 1
  | .map entries => uptoBulkEntries entries + 1
  | .held _ => 1
def uptoBulkAll {H : Type} : List (DataW H) → Nat
  | [] => 0
  | d :: r => uptoBulk d + uptoBulkAll r
def uptoBulkEntries {H : Type} : List (Lit × DataW H) → Nat
  | [] => 0
  | x :: r => uptoBulkEntry x + uptoBulkEntries r
def uptoBulkEntry {H : Type} : Lit × DataW H → Nat
  | (.string bytes, d) => bytes.length + uptoBulk d + 1
  | (_, d) => uptoBulk d + 1
 end
def uptoSmall : (H : Type) → List (DataW H) → Bool := fun _ ds => decide (uptoBulkAll ds ≤ 1048576)
def OpenSpec.upto (s : _root_.Go.ChangeSpec) : _root_.Go.OpenSpec := { _root_.Go.OpenSpec.ofChange s with cond := some uptoSmall }

/-- 'laws.FnExactLinearRight', WHERE WHAT IT READS IS OF BULK AT MOST 1048576: true; the input reads as it did. -/
def fnExactLinearRightUptoRow : OpenClaim := { program := "ytcfllpgppinofaadoor", sum := "ac82a72cdb9e8d037b286d09cb42855ab8fc2b1da754bb5441a9714d24c68ee4", func := "loop.example/historychecker/laws.FnExactLinearRight", spec := "fnExactLinearRight", unfollowed := true, recurses := true, named := ["math/bits.deBruijn32tab", "math/bits.deBruijn64tab"], apart := false, laid := [("math/bits.deBruijn32tab", laid_math_bits_deBruijn32tab), ("math/bits.deBruijn64tab", laid_math_bits_deBruijn64tab)], narrowed := true }
def FnExactLinearRightUptoSaid : Prop := fnExactLinearRightUptoRow.holds Tryd.pinned (OpenSpec.upto fnExactLinearRightSpec)

/-- 'laws.FnScheduleValid', WHERE WHAT IT READS IS OF BULK AT MOST 1048576: true; the input reads as it did. -/
def fnScheduleValidUptoRow : OpenClaim := { program := "ytcfllpgppinofaadoor", sum := "ac82a72cdb9e8d037b286d09cb42855ab8fc2b1da754bb5441a9714d24c68ee4", func := "loop.example/historychecker/laws.FnScheduleValid", spec := "fnScheduleValid", unfollowed := true, recurses := true, named := ["internal/strconv.uint64pow10", "math/bits.deBruijn32tab", "math/bits.deBruijn64tab"], apart := false, laid := [("math/bits.deBruijn32tab", laid_math_bits_deBruijn32tab), ("math/bits.deBruijn64tab", laid_math_bits_deBruijn64tab), ("internal/strconv.uint64pow10", laid_internal_strconv_uint64pow10)], narrowed := true }
def FnScheduleValidUptoSaid : Prop := fnScheduleValidUptoRow.holds Tryd.pinned (OpenSpec.upto fnScheduleValidSpec)

/-- 'laws.FnSpansValid', WHERE WHAT IT READS IS OF BULK AT MOST 1048576: true; the input reads as it did. -/
def fnSpansValidUptoRow : OpenClaim := { program := "ytcfllpgppinofaadoor", sum := "ac82a72cdb9e8d037b286d09cb42855ab8fc2b1da754bb5441a9714d24c68ee4", func := "loop.example/historychecker/laws.FnSpansValid", spec := "fnSpansValid", unfollowed := true, recurses := true, named := ["internal/strconv.uint64pow10", "math/bits.deBruijn32tab", "math/bits.deBruijn64tab"], apart := false, laid := [("math/bits.deBruijn32tab", laid_math_bits_deBruijn32tab), ("math/bits.deBruijn64tab", laid_math_bits_deBruijn64tab), ("internal/strconv.uint64pow10", laid_internal_strconv_uint64pow10)], narrowed := true }
def FnSpansValidUptoSaid : Prop := fnSpansValidUptoRow.holds Tryd.pinned (OpenSpec.upto fnSpansValidSpec)

/-- 'laws.FnPlanValid', WHERE WHAT IT READS IS OF BULK AT MOST 1048576: true; the input reads as it did. -/
def fnPlanValidUptoRow : OpenClaim := { program := "ytcfllpgppinofaadoor", sum := "ac82a72cdb9e8d037b286d09cb42855ab8fc2b1da754bb5441a9714d24c68ee4", func := "loop.example/historychecker/laws.FnPlanValid", spec := "fnPlanValid", unfollowed := true, recurses := true, named := ["internal/strconv.uint64pow10", "math/bits.deBruijn32tab", "math/bits.deBruijn64tab"], apart := false, laid := [("math/bits.deBruijn32tab", laid_math_bits_deBruijn32tab), ("math/bits.deBruijn64tab", laid_math_bits_deBruijn64tab), ("internal/strconv.uint64pow10", laid_internal_strconv_uint64pow10)], narrowed := true }
def FnPlanValidUptoSaid : Prop := fnPlanValidUptoRow.holds Tryd.pinned (OpenSpec.upto fnPlanValidSpec)

/-- 'laws.FnTogetherSpans', WHERE WHAT IT READS IS OF BULK AT MOST 1048576: true; the input reads as it did. -/
def fnTogetherSpansUptoRow : OpenClaim := { program := "ytcfllpgppinofaadoor", sum := "ac82a72cdb9e8d037b286d09cb42855ab8fc2b1da754bb5441a9714d24c68ee4", func := "loop.example/historychecker/laws.FnTogetherSpans", spec := "fnTogetherSpans", unfollowed := true, recurses := true, named := ["internal/strconv.uint64pow10", "math/bits.deBruijn32tab", "math/bits.deBruijn64tab"], apart := false, laid := [("math/bits.deBruijn32tab", laid_math_bits_deBruijn32tab), ("math/bits.deBruijn64tab", laid_math_bits_deBruijn64tab), ("internal/strconv.uint64pow10", laid_internal_strconv_uint64pow10)], narrowed := true }
def FnTogetherSpansUptoSaid : Prop := fnTogetherSpansUptoRow.holds Tryd.pinned (OpenSpec.upto fnTogetherSpansSpec)

/-- 'laws.FnCallsValid', WHERE WHAT IT READS IS OF BULK AT MOST 1048576: true; the input reads as it did. -/
def fnCallsValidUptoRow : OpenClaim := { program := "ytcfllpgppinofaadoor", sum := "ac82a72cdb9e8d037b286d09cb42855ab8fc2b1da754bb5441a9714d24c68ee4", func := "loop.example/historychecker/laws.FnCallsValid", spec := "fnCallsValid", unfollowed := true, recurses := true, named := ["internal/strconv.uint64pow10", "math/bits.deBruijn32tab", "math/bits.deBruijn64tab"], apart := false, laid := [("math/bits.deBruijn32tab", laid_math_bits_deBruijn32tab), ("math/bits.deBruijn64tab", laid_math_bits_deBruijn64tab), ("internal/strconv.uint64pow10", laid_internal_strconv_uint64pow10)], narrowed := true }
def FnCallsValidUptoSaid : Prop := fnCallsValidUptoRow.holds Tryd.pinned (OpenSpec.upto fnCallsValidSpec)

/-- 'laws.FnListsValid', WHERE WHAT IT READS IS OF BULK AT MOST 1048576: true; the input reads as it did. -/
def fnListsValidUptoRow : OpenClaim := { program := "ytcfllpgppinofaadoor", sum := "ac82a72cdb9e8d037b286d09cb42855ab8fc2b1da754bb5441a9714d24c68ee4", func := "loop.example/historychecker/laws.FnListsValid", spec := "fnListsValid", unfollowed := true, recurses := true, named := ["internal/strconv.uint64pow10", "math/bits.deBruijn32tab", "math/bits.deBruijn64tab"], apart := false, laid := [("math/bits.deBruijn32tab", laid_math_bits_deBruijn32tab), ("math/bits.deBruijn64tab", laid_math_bits_deBruijn64tab), ("internal/strconv.uint64pow10", laid_internal_strconv_uint64pow10)], narrowed := true }
def FnListsValidUptoSaid : Prop := fnListsValidUptoRow.holds Tryd.pinned (OpenSpec.upto fnListsValidSpec)

/-- 'laws.FnLongestList', WHERE WHAT IT READS IS OF BULK AT MOST 1048576: true; the input reads as it did. -/
def fnLongestListUptoRow : OpenClaim := { program := "ytcfllpgppinofaadoor", sum := "ac82a72cdb9e8d037b286d09cb42855ab8fc2b1da754bb5441a9714d24c68ee4", func := "loop.example/historychecker/laws.FnLongestList", spec := "fnLongestList", unfollowed := true, recurses := true, named := ["internal/strconv.uint64pow10", "math/bits.deBruijn32tab", "math/bits.deBruijn64tab"], apart := false, laid := [("math/bits.deBruijn32tab", laid_math_bits_deBruijn32tab), ("math/bits.deBruijn64tab", laid_math_bits_deBruijn64tab), ("internal/strconv.uint64pow10", laid_internal_strconv_uint64pow10)], narrowed := true }
def FnLongestListUptoSaid : Prop := fnLongestListUptoRow.holds Tryd.pinned (OpenSpec.upto fnLongestListSpec)

/-- 'laws.FnListsAgree', WHERE WHAT IT READS IS OF BULK AT MOST 1048576: true; the input reads as it did. -/
def fnListsAgreeUptoRow : OpenClaim := { program := "ytcfllpgppinofaadoor", sum := "ac82a72cdb9e8d037b286d09cb42855ab8fc2b1da754bb5441a9714d24c68ee4", func := "loop.example/historychecker/laws.FnListsAgree", spec := "fnListsAgree", unfollowed := true, recurses := true, named := ["internal/strconv.uint64pow10", "math/bits.deBruijn32tab", "math/bits.deBruijn64tab"], apart := false, laid := [("math/bits.deBruijn32tab", laid_math_bits_deBruijn32tab), ("math/bits.deBruijn64tab", laid_math_bits_deBruijn64tab), ("internal/strconv.uint64pow10", laid_internal_strconv_uint64pow10)], narrowed := true }
def FnListsAgreeUptoSaid : Prop := fnListsAgreeUptoRow.holds Tryd.pinned (OpenSpec.upto fnListsAgreeSpec)

/-- 'laws.FnListsLess', WHERE WHAT IT READS IS OF BULK AT MOST 1048576: true; the input reads as it did. -/
def fnListsLessUptoRow : OpenClaim := { program := "ytcfllpgppinofaadoor", sum := "ac82a72cdb9e8d037b286d09cb42855ab8fc2b1da754bb5441a9714d24c68ee4", func := "loop.example/historychecker/laws.FnListsLess", spec := "fnListsLess", unfollowed := true, recurses := true, named := ["internal/strconv.uint64pow10", "math/bits.deBruijn32tab", "math/bits.deBruijn64tab"], apart := false, laid := [("math/bits.deBruijn32tab", laid_math_bits_deBruijn32tab), ("math/bits.deBruijn64tab", laid_math_bits_deBruijn64tab), ("internal/strconv.uint64pow10", laid_internal_strconv_uint64pow10)], narrowed := true }
def FnListsLessUptoSaid : Prop := fnListsLessUptoRow.holds Tryd.pinned (OpenSpec.upto fnListsLessSpec)

end Rows
end Go.Proofs.YtcfllpgppinofaaDoor
