/-
  No cell of these rows narrows 'for every input' (looked for: loops, veiled, ifaces, maps, wideKeys, modest, calm, conditions, laid).
  DERIVED. THE GIVEN ROWS OF THIS SEAT. 9 by the template 'for every input the law returns true; each argument reads behind the call as it read before'; 0 by the template 'total and deterministic' (their statements: YtmlbfhknapkhgaaTotals.lean).
  GIVEN WITH THE SEED: the statements are not yours to turn. If you find one false, say at which input.
  Laid BY PROGRAM, IN A SANDBOX (cutbox-rows.mjs): the forced cells as the released guide's own fill.sh prints them over the translation 70c78b778af57cf3… (all of the seat's roots in one cut). By AI agents, Wed Nov 11 2026. No macro, syntax, notation, axiom, sorry.
-/
import Derived.Test.YtmlbfhknapkhgaaChecked
import GoSem.Claim
import GoSem.ClaimJoined
import GoSem.ClaimMapViews
import Derived.JoinedTies
import Derived.KernelRfl
namespace Go.Proofs.Ytmlbfhknapkhgaa
/- THE CELL 'sum', in the pinned program and in every row, IS THE sha256 OF THE DUMP (.gsa) THAT YtmlbfhknapkhgaaProg.lean LOADS. Nothing in Lean hashes anything: it is a label: what it is worth is what the hold of that sum in a sandbox is worth. -/
noncomputable def Try.pinned : Pinned := { name := "ytmlbfhknapkhgaa", sum := "70c78b778af57cf37cd6a7c54fe2b62fdd0d76b38d993da583010d4f760a4458", checked := Try.checked }
namespace Rows
def none {H : Type} : Left H := { results := [], args := [] }

/-- 'laws.FnExactDropTxn': WHATEVER THE INPUT: true; the input reads as it did. -/
def fnExactDropTxnSpec : ChangeSpec := { name := "fnExactDropTxn", fn := fun _ => fun
  | [d1, d2] => { results := [.lit (.bool true)], args := [d1, d2] }
  | _ => none }
def fnExactDropTxnRow : OpenClaim := { program := "ytmlbfhknapkhgaa", sum := "70c78b778af57cf37cd6a7c54fe2b62fdd0d76b38d993da583010d4f760a4458", func := "loop.example/historychecker/laws.FnExactDropTxn", spec := "fnExactDropTxn", unfollowed := true, recurses := true, plainKeys := false, apart := false }
def FnExactDropTxnSaid : Prop := fnExactDropTxnRow.holds Try.pinned (OpenSpec.ofChange fnExactDropTxnSpec)

/-- ITS FALSE NEIGHBOUR: 'it returns false'. Refute it at one input. -/
def fnExactDropTxnWrong : ChangeSpec := { name := "fnExactDropTxn", fn := fun _ => fun
  | [d1, d2] => { results := [.lit (.bool false)], args := [d1, d2] }
  | _ => none }
def FnExactDropTxnWrongFalsely : Prop := fnExactDropTxnRow.holds Try.pinned (OpenSpec.ofChange fnExactDropTxnWrong)

/-- 'laws.FnExactSessionSerial': WHATEVER THE INPUT: true; the input reads as it did. -/
def fnExactSessionSerialSpec : ChangeSpec := { name := "fnExactSessionSerial", fn := fun _ => fun
  | [d] => { results := [.lit (.bool true)], args := [d] }
  | _ => none }
def fnExactSessionSerialRow : OpenClaim := { program := "ytmlbfhknapkhgaa", sum := "70c78b778af57cf37cd6a7c54fe2b62fdd0d76b38d993da583010d4f760a4458", func := "loop.example/historychecker/laws.FnExactSessionSerial", spec := "fnExactSessionSerial", unfollowed := true, recurses := true, plainKeys := false, apart := false }
def FnExactSessionSerialSaid : Prop := fnExactSessionSerialRow.holds Try.pinned (OpenSpec.ofChange fnExactSessionSerialSpec)

/-- ITS FALSE NEIGHBOUR: 'it returns false'. Refute it at one input. -/
def fnExactSessionSerialWrong : ChangeSpec := { name := "fnExactSessionSerial", fn := fun _ => fun
  | [d] => { results := [.lit (.bool false)], args := [d] }
  | _ => none }
def FnExactSessionSerialWrongFalsely : Prop := fnExactSessionSerialRow.holds Try.pinned (OpenSpec.ofChange fnExactSessionSerialWrong)

/-- 'laws.FnExactShrinkBad': WHATEVER THE INPUT: true; the input reads as it did. -/
def fnExactShrinkBadSpec : ChangeSpec := { name := "fnExactShrinkBad", fn := fun _ => fun
  | [d] => { results := [.lit (.bool true)], args := [d] }
  | _ => none }
def fnExactShrinkBadRow : OpenClaim := { program := "ytmlbfhknapkhgaa", sum := "70c78b778af57cf37cd6a7c54fe2b62fdd0d76b38d993da583010d4f760a4458", func := "loop.example/historychecker/laws.FnExactShrinkBad", spec := "fnExactShrinkBad", unfollowed := true, recurses := true, plainKeys := false, apart := false }
def FnExactShrinkBadSaid : Prop := fnExactShrinkBadRow.holds Try.pinned (OpenSpec.ofChange fnExactShrinkBadSpec)

/-- ITS FALSE NEIGHBOUR: 'it returns false'. Refute it at one input. -/
def fnExactShrinkBadWrong : ChangeSpec := { name := "fnExactShrinkBad", fn := fun _ => fun
  | [d] => { results := [.lit (.bool false)], args := [d] }
  | _ => none }
def FnExactShrinkBadWrongFalsely : Prop := fnExactShrinkBadRow.holds Try.pinned (OpenSpec.ofChange fnExactShrinkBadWrong)

/-- 'laws.FnExactSnapshotRight': WHATEVER THE INPUT: true; the input reads as it did. -/
def fnExactSnapshotRightSpec : ChangeSpec := { name := "fnExactSnapshotRight", fn := fun _ => fun
  | [d1, d2] => { results := [.lit (.bool true)], args := [d1, d2] }
  | _ => none }
def fnExactSnapshotRightRow : OpenClaim := { program := "ytmlbfhknapkhgaa", sum := "70c78b778af57cf37cd6a7c54fe2b62fdd0d76b38d993da583010d4f760a4458", func := "loop.example/historychecker/laws.FnExactSnapshotRight", spec := "fnExactSnapshotRight", unfollowed := true, recurses := true, plainKeys := false, apart := false }
def FnExactSnapshotRightSaid : Prop := fnExactSnapshotRightRow.holds Try.pinned (OpenSpec.ofChange fnExactSnapshotRightSpec)

/-- ITS FALSE NEIGHBOUR: 'it returns false'. Refute it at one input. -/
def fnExactSnapshotRightWrong : ChangeSpec := { name := "fnExactSnapshotRight", fn := fun _ => fun
  | [d1, d2] => { results := [.lit (.bool false)], args := [d1, d2] }
  | _ => none }
def FnExactSnapshotRightWrongFalsely : Prop := fnExactSnapshotRightRow.holds Try.pinned (OpenSpec.ofChange fnExactSnapshotRightWrong)

/-- 'laws.FnExactFindSnapshot': WHATEVER THE INPUT: true; the input reads as it did. -/
def fnExactFindSnapshotSpec : ChangeSpec := { name := "fnExactFindSnapshot", fn := fun _ => fun
  | [d] => { results := [.lit (.bool true)], args := [d] }
  | _ => none }
def fnExactFindSnapshotRow : OpenClaim := { program := "ytmlbfhknapkhgaa", sum := "70c78b778af57cf37cd6a7c54fe2b62fdd0d76b38d993da583010d4f760a4458", func := "loop.example/historychecker/laws.FnExactFindSnapshot", spec := "fnExactFindSnapshot", unfollowed := true, recurses := true, plainKeys := false, apart := false }
def FnExactFindSnapshotSaid : Prop := fnExactFindSnapshotRow.holds Try.pinned (OpenSpec.ofChange fnExactFindSnapshotSpec)

/-- ITS FALSE NEIGHBOUR: 'it returns false'. Refute it at one input. -/
def fnExactFindSnapshotWrong : ChangeSpec := { name := "fnExactFindSnapshot", fn := fun _ => fun
  | [d] => { results := [.lit (.bool false)], args := [d] }
  | _ => none }
def FnExactFindSnapshotWrongFalsely : Prop := fnExactFindSnapshotRow.holds Try.pinned (OpenSpec.ofChange fnExactFindSnapshotWrong)

/-- 'laws.FnExactCommitOrders': WHATEVER THE INPUT: true; the input reads as it did. -/
def fnExactCommitOrdersSpec : ChangeSpec := { name := "fnExactCommitOrders", fn := fun _ => fun
  | [d1, d2] => { results := [.lit (.bool true)], args := [d1, d2] }
  | _ => none }
def fnExactCommitOrdersRow : OpenClaim := { program := "ytmlbfhknapkhgaa", sum := "70c78b778af57cf37cd6a7c54fe2b62fdd0d76b38d993da583010d4f760a4458", func := "loop.example/historychecker/laws.FnExactCommitOrders", spec := "fnExactCommitOrders", unfollowed := true, recurses := true, plainKeys := false, apart := false }
def FnExactCommitOrdersSaid : Prop := fnExactCommitOrdersRow.holds Try.pinned (OpenSpec.ofChange fnExactCommitOrdersSpec)

/-- ITS FALSE NEIGHBOUR: 'it returns false'. Refute it at one input. -/
def fnExactCommitOrdersWrong : ChangeSpec := { name := "fnExactCommitOrders", fn := fun _ => fun
  | [d1, d2] => { results := [.lit (.bool false)], args := [d1, d2] }
  | _ => none }
def FnExactCommitOrdersWrongFalsely : Prop := fnExactCommitOrdersRow.holds Try.pinned (OpenSpec.ofChange fnExactCommitOrdersWrong)

/-- 'laws.FnExactStrictRight': WHATEVER THE INPUT: true; the input reads as it did. -/
def fnExactStrictRightSpec : ChangeSpec := { name := "fnExactStrictRight", fn := fun _ => fun
  | [d1, d2, d3] => { results := [.lit (.bool true)], args := [d1, d2, d3] }
  | _ => none }
def fnExactStrictRightRow : OpenClaim := { program := "ytmlbfhknapkhgaa", sum := "70c78b778af57cf37cd6a7c54fe2b62fdd0d76b38d993da583010d4f760a4458", func := "loop.example/historychecker/laws.FnExactStrictRight", spec := "fnExactStrictRight", unfollowed := true, recurses := true, plainKeys := false, apart := false }
def FnExactStrictRightSaid : Prop := fnExactStrictRightRow.holds Try.pinned (OpenSpec.ofChange fnExactStrictRightSpec)

/-- ITS FALSE NEIGHBOUR: 'it returns false'. Refute it at one input. -/
def fnExactStrictRightWrong : ChangeSpec := { name := "fnExactStrictRight", fn := fun _ => fun
  | [d1, d2, d3] => { results := [.lit (.bool false)], args := [d1, d2, d3] }
  | _ => none }
def FnExactStrictRightWrongFalsely : Prop := fnExactStrictRightRow.holds Try.pinned (OpenSpec.ofChange fnExactStrictRightWrong)

/-- 'laws.FnExactVersionOf': WHATEVER THE INPUT: true; the input reads as it did. -/
def fnExactVersionOfSpec : ChangeSpec := { name := "fnExactVersionOf", fn := fun _ => fun
  | [d1, d2, d3, d4] => { results := [.lit (.bool true)], args := [d1, d2, d3, d4] }
  | _ => none }
def fnExactVersionOfRow : OpenClaim := { program := "ytmlbfhknapkhgaa", sum := "70c78b778af57cf37cd6a7c54fe2b62fdd0d76b38d993da583010d4f760a4458", func := "loop.example/historychecker/laws.FnExactVersionOf", spec := "fnExactVersionOf", unfollowed := true, recurses := true, plainKeys := false, apart := false }
def FnExactVersionOfSaid : Prop := fnExactVersionOfRow.holds Try.pinned (OpenSpec.ofChange fnExactVersionOfSpec)

/-- ITS FALSE NEIGHBOUR: 'it returns false'. Refute it at one input. -/
def fnExactVersionOfWrong : ChangeSpec := { name := "fnExactVersionOf", fn := fun _ => fun
  | [d1, d2, d3, d4] => { results := [.lit (.bool false)], args := [d1, d2, d3, d4] }
  | _ => none }
def FnExactVersionOfWrongFalsely : Prop := fnExactVersionOfRow.holds Try.pinned (OpenSpec.ofChange fnExactVersionOfWrong)

/-- 'laws.FnExactSessionBreaks': WHATEVER THE INPUT: true; the input reads as it did. -/
def fnExactSessionBreaksSpec : ChangeSpec := { name := "fnExactSessionBreaks", fn := fun _ => fun
  | [d1, d2, d3] => { results := [.lit (.bool true)], args := [d1, d2, d3] }
  | _ => none }
def fnExactSessionBreaksRow : OpenClaim := { program := "ytmlbfhknapkhgaa", sum := "70c78b778af57cf37cd6a7c54fe2b62fdd0d76b38d993da583010d4f760a4458", func := "loop.example/historychecker/laws.FnExactSessionBreaks", spec := "fnExactSessionBreaks", unfollowed := true, recurses := true, plainKeys := false, apart := false }
def FnExactSessionBreaksSaid : Prop := fnExactSessionBreaksRow.holds Try.pinned (OpenSpec.ofChange fnExactSessionBreaksSpec)

/-- ITS FALSE NEIGHBOUR: 'it returns false'. Refute it at one input. -/
def fnExactSessionBreaksWrong : ChangeSpec := { name := "fnExactSessionBreaks", fn := fun _ => fun
  | [d1, d2, d3] => { results := [.lit (.bool false)], args := [d1, d2, d3] }
  | _ => none }
def FnExactSessionBreaksWrongFalsely : Prop := fnExactSessionBreaksRow.holds Try.pinned (OpenSpec.ofChange fnExactSessionBreaksWrong)

/- THE SECOND FORM. 'bulk': how many values and letters a reading holds, each counted each time it is reached (what is shared counts as often as it is met; a slice's spare places count too). A statement '..UptoSaid' is the law's where the arguments, and the package variables that the reading takes, are together of bulk at most 1048576: NARROWER than '..Said'. Prove '..Said' where nothing that the law and all that it calls make is longer than what came in: it says more and counts as full. Else prove '..UptoSaid'. A law counts once. -/
mutual
def uptoBulk {H : Type} : DataW H → Nat
  | .lit (.string bytes) => bytes.length + 1
  | .lit _ => 1
  | .nil => 1
  | .ptr d => uptoBulk d + 1
  | .slice elems spare => uptoBulkAll elems + uptoBulkAll spare + 1
  | .agg parts => uptoBulkAll parts + 1
  | .iface _ d => uptoBulk d + 1
  | .map entries => uptoBulkEntries entries + 1
  | .held _ => 1
def uptoBulkAll {H : Type} : List (DataW H) → Nat
  | [] => 0
  | d :: r => uptoBulk d + uptoBulkAll r
def uptoBulkEntries {H : Type} : List (Lit × DataW H) → Nat
  | [] => 0
  | x :: r => uptoBulkEntry x + uptoBulkEntries r
def uptoBulkEntry {H : Type} : Lit × DataW H → Nat
  | (.string bytes, d) => bytes.length + uptoBulk d + 1
  | (_, d) => uptoBulk d + 1
 end
def uptoSmall : (H : Type) → List (DataW H) → Bool := fun _ ds => decide (uptoBulkAll ds ≤ 1048576)
def OpenSpec.upto (s : _root_.Go.ChangeSpec) : _root_.Go.OpenSpec := { _root_.Go.OpenSpec.ofChange s with cond := some uptoSmall }

/-- 'laws.FnExactDropTxn', WHERE WHAT IT READS IS OF BULK AT MOST 1048576: true; the input reads as it did. -/
def fnExactDropTxnUptoRow : OpenClaim := { program := "ytmlbfhknapkhgaa", sum := "70c78b778af57cf37cd6a7c54fe2b62fdd0d76b38d993da583010d4f760a4458", func := "loop.example/historychecker/laws.FnExactDropTxn", spec := "fnExactDropTxn", unfollowed := true, recurses := true, plainKeys := false, apart := false, narrowed := true }
def FnExactDropTxnUptoSaid : Prop := fnExactDropTxnUptoRow.holds Try.pinned (OpenSpec.upto fnExactDropTxnSpec)

/-- 'laws.FnExactSessionSerial', WHERE WHAT IT READS IS OF BULK AT MOST 1048576: true; the input reads as it did. -/
def fnExactSessionSerialUptoRow : OpenClaim := { program := "ytmlbfhknapkhgaa", sum := "70c78b778af57cf37cd6a7c54fe2b62fdd0d76b38d993da583010d4f760a4458", func := "loop.example/historychecker/laws.FnExactSessionSerial", spec := "fnExactSessionSerial", unfollowed := true, recurses := true, plainKeys := false, apart := false, narrowed := true }
def FnExactSessionSerialUptoSaid : Prop := fnExactSessionSerialUptoRow.holds Try.pinned (OpenSpec.upto fnExactSessionSerialSpec)

/-- 'laws.FnExactShrinkBad', WHERE WHAT IT READS IS OF BULK AT MOST 1048576: true; the input reads as it did. -/
def fnExactShrinkBadUptoRow : OpenClaim := { program := "ytmlbfhknapkhgaa", sum := "70c78b778af57cf37cd6a7c54fe2b62fdd0d76b38d993da583010d4f760a4458", func := "loop.example/historychecker/laws.FnExactShrinkBad", spec := "fnExactShrinkBad", unfollowed := true, recurses := true, plainKeys := false, apart := false, narrowed := true }
def FnExactShrinkBadUptoSaid : Prop := fnExactShrinkBadUptoRow.holds Try.pinned (OpenSpec.upto fnExactShrinkBadSpec)

/-- 'laws.FnExactSnapshotRight', WHERE WHAT IT READS IS OF BULK AT MOST 1048576: true; the input reads as it did. -/
def fnExactSnapshotRightUptoRow : OpenClaim := { program := "ytmlbfhknapkhgaa", sum := "70c78b778af57cf37cd6a7c54fe2b62fdd0d76b38d993da583010d4f760a4458", func := "loop.example/historychecker/laws.FnExactSnapshotRight", spec := "fnExactSnapshotRight", unfollowed := true, recurses := true, plainKeys := false, apart := false, narrowed := true }
def FnExactSnapshotRightUptoSaid : Prop := fnExactSnapshotRightUptoRow.holds Try.pinned (OpenSpec.upto fnExactSnapshotRightSpec)

/-- 'laws.FnExactFindSnapshot', WHERE WHAT IT READS IS OF BULK AT MOST 1048576: true; the input reads as it did. -/
def fnExactFindSnapshotUptoRow : OpenClaim := { program := "ytmlbfhknapkhgaa", sum := "70c78b778af57cf37cd6a7c54fe2b62fdd0d76b38d993da583010d4f760a4458", func := "loop.example/historychecker/laws.FnExactFindSnapshot", spec := "fnExactFindSnapshot", unfollowed := true, recurses := true, plainKeys := false, apart := false, narrowed := true }
def FnExactFindSnapshotUptoSaid : Prop := fnExactFindSnapshotUptoRow.holds Try.pinned (OpenSpec.upto fnExactFindSnapshotSpec)

/-- 'laws.FnExactCommitOrders', WHERE WHAT IT READS IS OF BULK AT MOST 1048576: true; the input reads as it did. -/
def fnExactCommitOrdersUptoRow : OpenClaim := { program := "ytmlbfhknapkhgaa", sum := "70c78b778af57cf37cd6a7c54fe2b62fdd0d76b38d993da583010d4f760a4458", func := "loop.example/historychecker/laws.FnExactCommitOrders", spec := "fnExactCommitOrders", unfollowed := true, recurses := true, plainKeys := false, apart := false, narrowed := true }
def FnExactCommitOrdersUptoSaid : Prop := fnExactCommitOrdersUptoRow.holds Try.pinned (OpenSpec.upto fnExactCommitOrdersSpec)

/-- 'laws.FnExactStrictRight', WHERE WHAT IT READS IS OF BULK AT MOST 1048576: true; the input reads as it did. -/
def fnExactStrictRightUptoRow : OpenClaim := { program := "ytmlbfhknapkhgaa", sum := "70c78b778af57cf37cd6a7c54fe2b62fdd0d76b38d993da583010d4f760a4458", func := "loop.example/historychecker/laws.FnExactStrictRight", spec := "fnExactStrictRight", unfollowed := true, recurses := true, plainKeys := false, apart := false, narrowed := true }
def FnExactStrictRightUptoSaid : Prop := fnExactStrictRightUptoRow.holds Try.pinned (OpenSpec.upto fnExactStrictRightSpec)

/-- 'laws.FnExactVersionOf', WHERE WHAT IT READS IS OF BULK AT MOST 1048576: true; the input reads as it did. -/
def fnExactVersionOfUptoRow : OpenClaim := { program := "ytmlbfhknapkhgaa", sum := "70c78b778af57cf37cd6a7c54fe2b62fdd0d76b38d993da583010d4f760a4458", func := "loop.example/historychecker/laws.FnExactVersionOf", spec := "fnExactVersionOf", unfollowed := true, recurses := true, plainKeys := false, apart := false, narrowed := true }
def FnExactVersionOfUptoSaid : Prop := fnExactVersionOfUptoRow.holds Try.pinned (OpenSpec.upto fnExactVersionOfSpec)

/-- 'laws.FnExactSessionBreaks', WHERE WHAT IT READS IS OF BULK AT MOST 1048576: true; the input reads as it did. -/
def fnExactSessionBreaksUptoRow : OpenClaim := { program := "ytmlbfhknapkhgaa", sum := "70c78b778af57cf37cd6a7c54fe2b62fdd0d76b38d993da583010d4f760a4458", func := "loop.example/historychecker/laws.FnExactSessionBreaks", spec := "fnExactSessionBreaks", unfollowed := true, recurses := true, plainKeys := false, apart := false, narrowed := true }
def FnExactSessionBreaksUptoSaid : Prop := fnExactSessionBreaksUptoRow.holds Try.pinned (OpenSpec.upto fnExactSessionBreaksSpec)

end Rows
end Go.Proofs.Ytmlbfhknapkhgaa
