/-
  NARROWER THAN 'FOR EVERY INPUT', by the rows' own cells (each row's printed sentence says how): FnDropTxn: laid · FnStrictSession: laid · FnShrinkTwice: laid · FnShrinkBad: laid · FnSnapshotRight: laid · FnFindSnapshot: laid · FnStrictRight: laid · FnVersionOf: laid · FnSessionBreaks: laid.
  DERIVED. THE GIVEN ROWS OF THIS SEAT. 9 by the template 'for every input the law returns true; each argument reads behind the call as it read before'; 0 by the template 'total and deterministic' (their statements: YtaaagoppecnmmaaDoorTotals.lean).
  GIVEN WITH THE SEED: the statements are not yours to turn. If you find one false, say at which input.
  Laid BY PROGRAM, IN A SANDBOX (cutbox-rows.mjs): the forced cells as the released guide's own fill.sh prints them over the translation e6701eacecf65632… (all of the seat's roots in one cut). By AI agents, Wed Nov 11 2026. No macro, syntax, notation, axiom, sorry.
-/
import Derived.Test.YtaaagoppecnmmaaDoorChecked
import GoSem.Claim
import GoSem.ClaimJoined
import GoSem.ClaimMapViews
import Derived.JoinedTies
import Derived.KernelRfl
namespace Go.Proofs.YtaaagoppecnmmaaDoor
/- THE CELL 'sum', in the pinned program and in every row, IS THE sha256 OF THE DUMP (.gsa) THAT YtaaagoppecnmmaaDoorProg.lean LOADS. Nothing in Lean hashes anything: it is a label: what it is worth is what the hold of that sum in a sandbox is worth. -/
noncomputable def Tryd.pinned : Pinned := { name := "ytaaagoppecnmmaadoor", sum := "e6701eacecf65632a6668e19e4e512b1fa33d7fd516c299a5032d664c7fc15b5", checked := Tryd.checked }
namespace Rows
def none {H : Type} : Left H := { results := [], args := [] }

/- WHAT THE LISTED PACKAGE-LEVEL VARIABLES READ AS WHEN THE CALL BEGINS. Each datum BY PROGRAM (the guide's laid-datum.mjs) off the statement by which the dump's own 'gosem.cut.vars' lays the variable. In a bare row this is a premise. The card (YtaaagoppecnmmaaDoorCards.lean) ties it to the program's text. -/
def laid_math_bits_deBruijn32tab {H : Type} : DataW H := .agg [.lit (.int .u8 0), .lit (.int .u8 1), .lit (.int .u8 28), .lit (.int .u8 2), .lit (.int .u8 29), .lit (.int .u8 14), .lit (.int .u8 24), .lit (.int .u8 3), .lit (.int .u8 30), .lit (.int .u8 22), .lit (.int .u8 20), .lit (.int .u8 15), .lit (.int .u8 25), .lit (.int .u8 17), .lit (.int .u8 4), .lit (.int .u8 8), .lit (.int .u8 31), .lit (.int .u8 27), .lit (.int .u8 13), .lit (.int .u8 23), .lit (.int .u8 21), .lit (.int .u8 19), .lit (.int .u8 16), .lit (.int .u8 7), .lit (.int .u8 26), .lit (.int .u8 12), .lit (.int .u8 18), .lit (.int .u8 6), .lit (.int .u8 11), .lit (.int .u8 5), .lit (.int .u8 10), .lit (.int .u8 9)]
def laid_math_bits_deBruijn64tab {H : Type} : DataW H := .agg [.lit (.int .u8 0), .lit (.int .u8 1), .lit (.int .u8 56), .lit (.int .u8 2), .lit (.int .u8 57), .lit (.int .u8 49), .lit (.int .u8 28), .lit (.int .u8 3), .lit (.int .u8 61), .lit (.int .u8 58), .lit (.int .u8 42), .lit (.int .u8 50), .lit (.int .u8 38), .lit (.int .u8 29), .lit (.int .u8 17), .lit (.int .u8 4), .lit (.int .u8 62), .lit (.int .u8 47), .lit (.int .u8 59), .lit (.int .u8 36), .lit (.int .u8 45), .lit (.int .u8 43), .lit (.int .u8 51), .lit (.int .u8 22), .lit (.int .u8 53), .lit (.int .u8 39), .lit (.int .u8 33), .lit (.int .u8 30), .lit (.int .u8 24), .lit (.int .u8 18), .lit (.int .u8 12), .lit (.int .u8 5), .lit (.int .u8 63), .lit (.int .u8 55), .lit (.int .u8 48), .lit (.int .u8 27), .lit (.int .u8 60), .lit (.int .u8 41), .lit (.int .u8 37), .lit (.int .u8 16), .lit (.int .u8 46), .lit (.int .u8 35), .lit (.int .u8 44), .lit (.int .u8 21), .lit (.int .u8 52), .lit (.int .u8 32), .lit (.int .u8 23), .lit (.int .u8 11), .lit (.int .u8 54), .lit (.int .u8 26), .lit (.int .u8 40), .lit (.int .u8 15), .lit (.int .u8 34), .lit (.int .u8 20), .lit (.int .u8 31), .lit (.int .u8 10), .lit (.int .u8 25), .lit (.int .u8 14), .lit (.int .u8 19), .lit (.int .u8 9), .lit (.int .u8 13), .lit (.int .u8 8), .lit (.int .u8 7), .lit (.int .u8 6)]
def laid_internal_strconv_uint64pow10 {H : Type} : DataW H := .agg [.lit (.int .u64 1), .lit (.int .u64 10), .lit (.int .u64 100), .lit (.int .u64 1000), .lit (.int .u64 10000), .lit (.int .u64 100000), .lit (.int .u64 1000000), .lit (.int .u64 10000000), .lit (.int .u64 100000000), .lit (.int .u64 1000000000), .lit (.int .u64 10000000000), .lit (.int .u64 100000000000), .lit (.int .u64 1000000000000), .lit (.int .u64 10000000000000), .lit (.int .u64 100000000000000), .lit (.int .u64 1000000000000000), .lit (.int .u64 10000000000000000), .lit (.int .u64 100000000000000000), .lit (.int .u64 1000000000000000000), .lit (.int .u64 10000000000000000000)]

/-- 'laws.FnDropTxn': WHATEVER THE INPUT: true; the input reads as it did. -/
def fnDropTxnSpec : ChangeSpec := { name := "fnDropTxn", fn := fun _ => fun
  | [d] => { results := [.lit (.bool true)], args := [d] }
  | _ => none }
def fnDropTxnRow : OpenClaim := { program := "ytaaagoppecnmmaadoor", sum := "e6701eacecf65632a6668e19e4e512b1fa33d7fd516c299a5032d664c7fc15b5", func := "loop.example/historychecker/laws.FnDropTxn", spec := "fnDropTxn", unfollowed := true, recurses := true, named := ["internal/strconv.uint64pow10", "math/bits.deBruijn32tab", "math/bits.deBruijn64tab"], plainKeys := false, apart := false, laid := [("math/bits.deBruijn32tab", laid_math_bits_deBruijn32tab), ("math/bits.deBruijn64tab", laid_math_bits_deBruijn64tab), ("internal/strconv.uint64pow10", laid_internal_strconv_uint64pow10)] }
def FnDropTxnSaid : Prop := fnDropTxnRow.holds Tryd.pinned (OpenSpec.ofChange fnDropTxnSpec)

/-- ITS FALSE NEIGHBOUR: 'it returns false'. Refute it at one input. -/
def fnDropTxnWrong : ChangeSpec := { name := "fnDropTxn", fn := fun _ => fun
  | [d] => { results := [.lit (.bool false)], args := [d] }
  | _ => none }
def FnDropTxnWrongFalsely : Prop := fnDropTxnRow.holds Tryd.pinned (OpenSpec.ofChange fnDropTxnWrong)

/-- 'laws.FnStrictSession': WHATEVER THE INPUT: true; the input reads as it did. -/
def fnStrictSessionSpec : ChangeSpec := { name := "fnStrictSession", fn := fun _ => fun
  | [d] => { results := [.lit (.bool true)], args := [d] }
  | _ => none }
def fnStrictSessionRow : OpenClaim := { program := "ytaaagoppecnmmaadoor", sum := "e6701eacecf65632a6668e19e4e512b1fa33d7fd516c299a5032d664c7fc15b5", func := "loop.example/historychecker/laws.FnStrictSession", spec := "fnStrictSession", unfollowed := true, recurses := true, named := ["math/bits.deBruijn32tab", "math/bits.deBruijn64tab", "internal/strconv.uint64pow10"], plainKeys := false, apart := false, laid := [("math/bits.deBruijn32tab", laid_math_bits_deBruijn32tab), ("math/bits.deBruijn64tab", laid_math_bits_deBruijn64tab), ("internal/strconv.uint64pow10", laid_internal_strconv_uint64pow10)] }
def FnStrictSessionSaid : Prop := fnStrictSessionRow.holds Tryd.pinned (OpenSpec.ofChange fnStrictSessionSpec)

/-- ITS FALSE NEIGHBOUR: 'it returns false'. Refute it at one input. -/
def fnStrictSessionWrong : ChangeSpec := { name := "fnStrictSession", fn := fun _ => fun
  | [d] => { results := [.lit (.bool false)], args := [d] }
  | _ => none }
def FnStrictSessionWrongFalsely : Prop := fnStrictSessionRow.holds Tryd.pinned (OpenSpec.ofChange fnStrictSessionWrong)

/-- 'laws.FnShrinkTwice': WHATEVER THE INPUT: true; the input reads as it did. -/
def fnShrinkTwiceSpec : ChangeSpec := { name := "fnShrinkTwice", fn := fun _ => fun
  | [d] => { results := [.lit (.bool true)], args := [d] }
  | _ => none }
def fnShrinkTwiceRow : OpenClaim := { program := "ytaaagoppecnmmaadoor", sum := "e6701eacecf65632a6668e19e4e512b1fa33d7fd516c299a5032d664c7fc15b5", func := "loop.example/historychecker/laws.FnShrinkTwice", spec := "fnShrinkTwice", unfollowed := true, recurses := true, named := ["internal/strconv.uint64pow10", "math/bits.deBruijn32tab", "math/bits.deBruijn64tab"], plainKeys := false, apart := false, laid := [("math/bits.deBruijn32tab", laid_math_bits_deBruijn32tab), ("math/bits.deBruijn64tab", laid_math_bits_deBruijn64tab), ("internal/strconv.uint64pow10", laid_internal_strconv_uint64pow10)] }
def FnShrinkTwiceSaid : Prop := fnShrinkTwiceRow.holds Tryd.pinned (OpenSpec.ofChange fnShrinkTwiceSpec)

/-- ITS FALSE NEIGHBOUR: 'it returns false'. Refute it at one input. -/
def fnShrinkTwiceWrong : ChangeSpec := { name := "fnShrinkTwice", fn := fun _ => fun
  | [d] => { results := [.lit (.bool false)], args := [d] }
  | _ => none }
def FnShrinkTwiceWrongFalsely : Prop := fnShrinkTwiceRow.holds Tryd.pinned (OpenSpec.ofChange fnShrinkTwiceWrong)

/-- 'laws.FnShrinkBad': WHATEVER THE INPUT: true; the input reads as it did. -/
def fnShrinkBadSpec : ChangeSpec := { name := "fnShrinkBad", fn := fun _ => fun
  | [d] => { results := [.lit (.bool true)], args := [d] }
  | _ => none }
def fnShrinkBadRow : OpenClaim := { program := "ytaaagoppecnmmaadoor", sum := "e6701eacecf65632a6668e19e4e512b1fa33d7fd516c299a5032d664c7fc15b5", func := "loop.example/historychecker/laws.FnShrinkBad", spec := "fnShrinkBad", unfollowed := true, recurses := true, named := ["internal/strconv.uint64pow10", "math/bits.deBruijn32tab", "math/bits.deBruijn64tab"], plainKeys := false, apart := false, laid := [("math/bits.deBruijn32tab", laid_math_bits_deBruijn32tab), ("math/bits.deBruijn64tab", laid_math_bits_deBruijn64tab), ("internal/strconv.uint64pow10", laid_internal_strconv_uint64pow10)] }
def FnShrinkBadSaid : Prop := fnShrinkBadRow.holds Tryd.pinned (OpenSpec.ofChange fnShrinkBadSpec)

/-- ITS FALSE NEIGHBOUR: 'it returns false'. Refute it at one input. -/
def fnShrinkBadWrong : ChangeSpec := { name := "fnShrinkBad", fn := fun _ => fun
  | [d] => { results := [.lit (.bool false)], args := [d] }
  | _ => none }
def FnShrinkBadWrongFalsely : Prop := fnShrinkBadRow.holds Tryd.pinned (OpenSpec.ofChange fnShrinkBadWrong)

/-- 'laws.FnSnapshotRight': WHATEVER THE INPUT: true; the input reads as it did. -/
def fnSnapshotRightSpec : ChangeSpec := { name := "fnSnapshotRight", fn := fun _ => fun
  | [d] => { results := [.lit (.bool true)], args := [d] }
  | _ => none }
def fnSnapshotRightRow : OpenClaim := { program := "ytaaagoppecnmmaadoor", sum := "e6701eacecf65632a6668e19e4e512b1fa33d7fd516c299a5032d664c7fc15b5", func := "loop.example/historychecker/laws.FnSnapshotRight", spec := "fnSnapshotRight", unfollowed := true, recurses := true, named := ["internal/strconv.uint64pow10", "math/bits.deBruijn32tab", "math/bits.deBruijn64tab"], plainKeys := false, apart := false, laid := [("math/bits.deBruijn32tab", laid_math_bits_deBruijn32tab), ("math/bits.deBruijn64tab", laid_math_bits_deBruijn64tab), ("internal/strconv.uint64pow10", laid_internal_strconv_uint64pow10)] }
def FnSnapshotRightSaid : Prop := fnSnapshotRightRow.holds Tryd.pinned (OpenSpec.ofChange fnSnapshotRightSpec)

/-- ITS FALSE NEIGHBOUR: 'it returns false'. Refute it at one input. -/
def fnSnapshotRightWrong : ChangeSpec := { name := "fnSnapshotRight", fn := fun _ => fun
  | [d] => { results := [.lit (.bool false)], args := [d] }
  | _ => none }
def FnSnapshotRightWrongFalsely : Prop := fnSnapshotRightRow.holds Tryd.pinned (OpenSpec.ofChange fnSnapshotRightWrong)

/-- 'laws.FnFindSnapshot': WHATEVER THE INPUT: true; the input reads as it did. -/
def fnFindSnapshotSpec : ChangeSpec := { name := "fnFindSnapshot", fn := fun _ => fun
  | [d] => { results := [.lit (.bool true)], args := [d] }
  | _ => none }
def fnFindSnapshotRow : OpenClaim := { program := "ytaaagoppecnmmaadoor", sum := "e6701eacecf65632a6668e19e4e512b1fa33d7fd516c299a5032d664c7fc15b5", func := "loop.example/historychecker/laws.FnFindSnapshot", spec := "fnFindSnapshot", unfollowed := true, recurses := true, named := ["internal/strconv.uint64pow10", "math/bits.deBruijn32tab", "math/bits.deBruijn64tab"], plainKeys := false, apart := false, laid := [("math/bits.deBruijn32tab", laid_math_bits_deBruijn32tab), ("math/bits.deBruijn64tab", laid_math_bits_deBruijn64tab), ("internal/strconv.uint64pow10", laid_internal_strconv_uint64pow10)] }
def FnFindSnapshotSaid : Prop := fnFindSnapshotRow.holds Tryd.pinned (OpenSpec.ofChange fnFindSnapshotSpec)

/-- ITS FALSE NEIGHBOUR: 'it returns false'. Refute it at one input. -/
def fnFindSnapshotWrong : ChangeSpec := { name := "fnFindSnapshot", fn := fun _ => fun
  | [d] => { results := [.lit (.bool false)], args := [d] }
  | _ => none }
def FnFindSnapshotWrongFalsely : Prop := fnFindSnapshotRow.holds Tryd.pinned (OpenSpec.ofChange fnFindSnapshotWrong)

/-- 'laws.FnStrictRight': WHATEVER THE INPUT: true; the input reads as it did. -/
def fnStrictRightSpec : ChangeSpec := { name := "fnStrictRight", fn := fun _ => fun
  | [d] => { results := [.lit (.bool true)], args := [d] }
  | _ => none }
def fnStrictRightRow : OpenClaim := { program := "ytaaagoppecnmmaadoor", sum := "e6701eacecf65632a6668e19e4e512b1fa33d7fd516c299a5032d664c7fc15b5", func := "loop.example/historychecker/laws.FnStrictRight", spec := "fnStrictRight", unfollowed := true, recurses := true, named := ["internal/strconv.uint64pow10", "math/bits.deBruijn32tab", "math/bits.deBruijn64tab"], plainKeys := false, apart := false, laid := [("math/bits.deBruijn32tab", laid_math_bits_deBruijn32tab), ("math/bits.deBruijn64tab", laid_math_bits_deBruijn64tab), ("internal/strconv.uint64pow10", laid_internal_strconv_uint64pow10)] }
def FnStrictRightSaid : Prop := fnStrictRightRow.holds Tryd.pinned (OpenSpec.ofChange fnStrictRightSpec)

/-- ITS FALSE NEIGHBOUR: 'it returns false'. Refute it at one input. -/
def fnStrictRightWrong : ChangeSpec := { name := "fnStrictRight", fn := fun _ => fun
  | [d] => { results := [.lit (.bool false)], args := [d] }
  | _ => none }
def FnStrictRightWrongFalsely : Prop := fnStrictRightRow.holds Tryd.pinned (OpenSpec.ofChange fnStrictRightWrong)

/-- 'laws.FnVersionOf': WHATEVER THE INPUT: true; the input reads as it did. -/
def fnVersionOfSpec : ChangeSpec := { name := "fnVersionOf", fn := fun _ => fun
  | [d] => { results := [.lit (.bool true)], args := [d] }
  | _ => none }
def fnVersionOfRow : OpenClaim := { program := "ytaaagoppecnmmaadoor", sum := "e6701eacecf65632a6668e19e4e512b1fa33d7fd516c299a5032d664c7fc15b5", func := "loop.example/historychecker/laws.FnVersionOf", spec := "fnVersionOf", unfollowed := true, recurses := true, named := ["internal/strconv.uint64pow10", "math/bits.deBruijn32tab", "math/bits.deBruijn64tab"], plainKeys := false, apart := false, laid := [("math/bits.deBruijn32tab", laid_math_bits_deBruijn32tab), ("math/bits.deBruijn64tab", laid_math_bits_deBruijn64tab), ("internal/strconv.uint64pow10", laid_internal_strconv_uint64pow10)] }
def FnVersionOfSaid : Prop := fnVersionOfRow.holds Tryd.pinned (OpenSpec.ofChange fnVersionOfSpec)

/-- ITS FALSE NEIGHBOUR: 'it returns false'. Refute it at one input. -/
def fnVersionOfWrong : ChangeSpec := { name := "fnVersionOf", fn := fun _ => fun
  | [d] => { results := [.lit (.bool false)], args := [d] }
  | _ => none }
def FnVersionOfWrongFalsely : Prop := fnVersionOfRow.holds Tryd.pinned (OpenSpec.ofChange fnVersionOfWrong)

/-- 'laws.FnSessionBreaks': WHATEVER THE INPUT: true; the input reads as it did. -/
def fnSessionBreaksSpec : ChangeSpec := { name := "fnSessionBreaks", fn := fun _ => fun
  | [d] => { results := [.lit (.bool true)], args := [d] }
  | _ => none }
def fnSessionBreaksRow : OpenClaim := { program := "ytaaagoppecnmmaadoor", sum := "e6701eacecf65632a6668e19e4e512b1fa33d7fd516c299a5032d664c7fc15b5", func := "loop.example/historychecker/laws.FnSessionBreaks", spec := "fnSessionBreaks", unfollowed := true, recurses := true, named := ["internal/strconv.uint64pow10", "math/bits.deBruijn32tab", "math/bits.deBruijn64tab"], plainKeys := false, apart := false, laid := [("math/bits.deBruijn32tab", laid_math_bits_deBruijn32tab), ("math/bits.deBruijn64tab", laid_math_bits_deBruijn64tab), ("internal/strconv.uint64pow10", laid_internal_strconv_uint64pow10)] }
def FnSessionBreaksSaid : Prop := fnSessionBreaksRow.holds Tryd.pinned (OpenSpec.ofChange fnSessionBreaksSpec)

/-- ITS FALSE NEIGHBOUR: 'it returns false'. Refute it at one input. -/
def fnSessionBreaksWrong : ChangeSpec := { name := "fnSessionBreaks", fn := fun _ => fun
  | [d] => { results := [.lit (.bool false)], args := [d] }
  | _ => none }
def FnSessionBreaksWrongFalsely : Prop := fnSessionBreaksRow.holds Tryd.pinned (OpenSpec.ofChange fnSessionBreaksWrong)

/- THE SECOND FORM. 'bulk': how many values and letters a reading holds, each counted each time it is reached (what is shared counts as often as it is met; a slice's spare places count too). A statement '..UptoSaid' is the law's where the arguments, and the package variables that the reading takes, are together of bulk at most 1048576: NARROWER than '..Said'. Prove '..Said' where nothing that the law and all that it calls make is longer than what came in: it says more and counts as full. Else prove '..UptoSaid'. A law counts once. -/
mutual
def uptoBulk {H : Type} : DataW H → Nat
  | .lit (.string bytes) => bytes.length + 1
  | .lit _ => 1
  | .nil => 1
  | .ptr d => uptoBulk d + 1
  | .slice elems spare => uptoBulkAll elems + uptoBulkAll spare + 1
  | .agg parts => uptoBulkAll parts + 1
  | .iface _ d => uptoBulk d + 1
  | .map entries => uptoBulkEntries entries + 1
  | .held _ => 1
def uptoBulkAll {H : Type} : List (DataW H) → Nat
  | [] => 0
  | d :: r => uptoBulk d + uptoBulkAll r
def uptoBulkEntries {H : Type} : List (Lit × DataW H) → Nat
  | [] => 0
  | x :: r => uptoBulkEntry x + uptoBulkEntries r
def uptoBulkEntry {H : Type} : Lit × DataW H → Nat
  | (.string bytes, d) => bytes.length + uptoBulk d + 1
  | (_, d) => uptoBulk d + 1
 end
def uptoSmall : (H : Type) → List (DataW H) → Bool := fun _ ds => decide (uptoBulkAll ds ≤ 1048576)
def OpenSpec.upto (s : _root_.Go.ChangeSpec) : _root_.Go.OpenSpec := { _root_.Go.OpenSpec.ofChange s with cond := some uptoSmall }

/-- 'laws.FnDropTxn', WHERE WHAT IT READS IS OF BULK AT MOST 1048576: true; the input reads as it did. -/
def fnDropTxnUptoRow : OpenClaim := { program := "ytaaagoppecnmmaadoor", sum := "e6701eacecf65632a6668e19e4e512b1fa33d7fd516c299a5032d664c7fc15b5", func := "loop.example/historychecker/laws.FnDropTxn", spec := "fnDropTxn", unfollowed := true, recurses := true, named := ["internal/strconv.uint64pow10", "math/bits.deBruijn32tab", "math/bits.deBruijn64tab"], plainKeys := false, apart := false, laid := [("math/bits.deBruijn32tab", laid_math_bits_deBruijn32tab), ("math/bits.deBruijn64tab", laid_math_bits_deBruijn64tab), ("internal/strconv.uint64pow10", laid_internal_strconv_uint64pow10)], narrowed := true }
def FnDropTxnUptoSaid : Prop := fnDropTxnUptoRow.holds Tryd.pinned (OpenSpec.upto fnDropTxnSpec)

/-- 'laws.FnStrictSession', WHERE WHAT IT READS IS OF BULK AT MOST 1048576: true; the input reads as it did. -/
def fnStrictSessionUptoRow : OpenClaim := { program := "ytaaagoppecnmmaadoor", sum := "e6701eacecf65632a6668e19e4e512b1fa33d7fd516c299a5032d664c7fc15b5", func := "loop.example/historychecker/laws.FnStrictSession", spec := "fnStrictSession", unfollowed := true, recurses := true, named := ["math/bits.deBruijn32tab", "math/bits.deBruijn64tab", "internal/strconv.uint64pow10"], plainKeys := false, apart := false, laid := [("math/bits.deBruijn32tab", laid_math_bits_deBruijn32tab), ("math/bits.deBruijn64tab", laid_math_bits_deBruijn64tab), ("internal/strconv.uint64pow10", laid_internal_strconv_uint64pow10)], narrowed := true }
def FnStrictSessionUptoSaid : Prop := fnStrictSessionUptoRow.holds Tryd.pinned (OpenSpec.upto fnStrictSessionSpec)

/-- 'laws.FnShrinkTwice', WHERE WHAT IT READS IS OF BULK AT MOST 1048576: true; the input reads as it did. -/
def fnShrinkTwiceUptoRow : OpenClaim := { program := "ytaaagoppecnmmaadoor", sum := "e6701eacecf65632a6668e19e4e512b1fa33d7fd516c299a5032d664c7fc15b5", func := "loop.example/historychecker/laws.FnShrinkTwice", spec := "fnShrinkTwice", unfollowed := true, recurses := true, named := ["internal/strconv.uint64pow10", "math/bits.deBruijn32tab", "math/bits.deBruijn64tab"], plainKeys := false, apart := false, laid := [("math/bits.deBruijn32tab", laid_math_bits_deBruijn32tab), ("math/bits.deBruijn64tab", laid_math_bits_deBruijn64tab), ("internal/strconv.uint64pow10", laid_internal_strconv_uint64pow10)], narrowed := true }
def FnShrinkTwiceUptoSaid : Prop := fnShrinkTwiceUptoRow.holds Tryd.pinned (OpenSpec.upto fnShrinkTwiceSpec)

/-- 'laws.FnShrinkBad', WHERE WHAT IT READS IS OF BULK AT MOST 1048576: true; the input reads as it did. -/
def fnShrinkBadUptoRow : OpenClaim := { program := "ytaaagoppecnmmaadoor", sum := "e6701eacecf65632a6668e19e4e512b1fa33d7fd516c299a5032d664c7fc15b5", func := "loop.example/historychecker/laws.FnShrinkBad", spec := "fnShrinkBad", unfollowed := true, recurses := true, named := ["internal/strconv.uint64pow10", "math/bits.deBruijn32tab", "math/bits.deBruijn64tab"], plainKeys := false, apart := false, laid := [("math/bits.deBruijn32tab", laid_math_bits_deBruijn32tab), ("math/bits.deBruijn64tab", laid_math_bits_deBruijn64tab), ("internal/strconv.uint64pow10", laid_internal_strconv_uint64pow10)], narrowed := true }
def FnShrinkBadUptoSaid : Prop := fnShrinkBadUptoRow.holds Tryd.pinned (OpenSpec.upto fnShrinkBadSpec)

/-- 'laws.FnSnapshotRight', WHERE WHAT IT READS IS OF BULK AT MOST 1048576: true; the input reads as it did. -/
def fnSnapshotRightUptoRow : OpenClaim := { program := "ytaaagoppecnmmaadoor", sum := "e6701eacecf65632a6668e19e4e512b1fa33d7fd516c299a5032d664c7fc15b5", func := "loop.example/historychecker/laws.FnSnapshotRight", spec := "fnSnapshotRight", unfollowed := true, recurses := true, named := ["internal/strconv.uint64pow10", "math/bits.deBruijn32tab", "math/bits.deBruijn64tab"], plainKeys := false, apart := false, laid := [("math/bits.deBruijn32tab", laid_math_bits_deBruijn32tab), ("math/bits.deBruijn64tab", laid_math_bits_deBruijn64tab), ("internal/strconv.uint64pow10", laid_internal_strconv_uint64pow10)], narrowed := true }
def FnSnapshotRightUptoSaid : Prop := fnSnapshotRightUptoRow.holds Tryd.pinned (OpenSpec.upto fnSnapshotRightSpec)

/-- 'laws.FnFindSnapshot', WHERE WHAT IT READS IS OF BULK AT MOST 1048576: true; the input reads as it did. -/
def fnFindSnapshotUptoRow : OpenClaim := { program := "ytaaagoppecnmmaadoor", sum := "e6701eacecf65632a6668e19e4e512b1fa33d7fd516c299a5032d664c7fc15b5", func := "loop.example/historychecker/laws.FnFindSnapshot", spec := "fnFindSnapshot", unfollowed := true, recurses := true, named := ["internal/strconv.uint64pow10", "math/bits.deBruijn32tab", "math/bits.deBruijn64tab"], plainKeys := false, apart := false, laid := [("math/bits.deBruijn32tab", laid_math_bits_deBruijn32tab), ("math/bits.deBruijn64tab", laid_math_bits_deBruijn64tab), ("internal/strconv.uint64pow10", laid_internal_strconv_uint64pow10)], narrowed := true }
def FnFindSnapshotUptoSaid : Prop := fnFindSnapshotUptoRow.holds Tryd.pinned (OpenSpec.upto fnFindSnapshotSpec)

/-- 'laws.FnStrictRight', WHERE WHAT IT READS IS OF BULK AT MOST 1048576: true; the input reads as it did. -/
def fnStrictRightUptoRow : OpenClaim := { program := "ytaaagoppecnmmaadoor", sum := "e6701eacecf65632a6668e19e4e512b1fa33d7fd516c299a5032d664c7fc15b5", func := "loop.example/historychecker/laws.FnStrictRight", spec := "fnStrictRight", unfollowed := true, recurses := true, named := ["internal/strconv.uint64pow10", "math/bits.deBruijn32tab", "math/bits.deBruijn64tab"], plainKeys := false, apart := false, laid := [("math/bits.deBruijn32tab", laid_math_bits_deBruijn32tab), ("math/bits.deBruijn64tab", laid_math_bits_deBruijn64tab), ("internal/strconv.uint64pow10", laid_internal_strconv_uint64pow10)], narrowed := true }
def FnStrictRightUptoSaid : Prop := fnStrictRightUptoRow.holds Tryd.pinned (OpenSpec.upto fnStrictRightSpec)

/-- 'laws.FnVersionOf', WHERE WHAT IT READS IS OF BULK AT MOST 1048576: true; the input reads as it did. -/
def fnVersionOfUptoRow : OpenClaim := { program := "ytaaagoppecnmmaadoor", sum := "e6701eacecf65632a6668e19e4e512b1fa33d7fd516c299a5032d664c7fc15b5", func := "loop.example/historychecker/laws.FnVersionOf", spec := "fnVersionOf", unfollowed := true, recurses := true, named := ["internal/strconv.uint64pow10", "math/bits.deBruijn32tab", "math/bits.deBruijn64tab"], plainKeys := false, apart := false, laid := [("math/bits.deBruijn32tab", laid_math_bits_deBruijn32tab), ("math/bits.deBruijn64tab", laid_math_bits_deBruijn64tab), ("internal/strconv.uint64pow10", laid_internal_strconv_uint64pow10)], narrowed := true }
def FnVersionOfUptoSaid : Prop := fnVersionOfUptoRow.holds Tryd.pinned (OpenSpec.upto fnVersionOfSpec)

/-- 'laws.FnSessionBreaks', WHERE WHAT IT READS IS OF BULK AT MOST 1048576: true; the input reads as it did. -/
def fnSessionBreaksUptoRow : OpenClaim := { program := "ytaaagoppecnmmaadoor", sum := "e6701eacecf65632a6668e19e4e512b1fa33d7fd516c299a5032d664c7fc15b5", func := "loop.example/historychecker/laws.FnSessionBreaks", spec := "fnSessionBreaks", unfollowed := true, recurses := true, named := ["internal/strconv.uint64pow10", "math/bits.deBruijn32tab", "math/bits.deBruijn64tab"], plainKeys := false, apart := false, laid := [("math/bits.deBruijn32tab", laid_math_bits_deBruijn32tab), ("math/bits.deBruijn64tab", laid_math_bits_deBruijn64tab), ("internal/strconv.uint64pow10", laid_internal_strconv_uint64pow10)], narrowed := true }
def FnSessionBreaksUptoSaid : Prop := fnSessionBreaksUptoRow.holds Tryd.pinned (OpenSpec.upto fnSessionBreaksSpec)

end Rows
end Go.Proofs.YtaaagoppecnmmaaDoor
