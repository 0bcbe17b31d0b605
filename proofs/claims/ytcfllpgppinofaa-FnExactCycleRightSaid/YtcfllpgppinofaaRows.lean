/-
  No cell of these rows narrows 'for every input' (looked for: loops, veiled, ifaces, maps, wideKeys, modest, calm, conditions, laid).
  DERIVED. THE GIVEN ROWS OF THIS SEAT. 2 by the template 'for every input the law returns true; each argument reads behind the call as it read before'; 0 by the template 'total and deterministic' (their statements: YtcfllpgppinofaaTotals.lean).
  GIVEN WITH THE SEED: the statements are not yours to turn. If you find one false, say at which input.
  Laid BY PROGRAM, IN A SANDBOX (cutbox-rows.mjs): the forced cells as the released guide's own fill.sh prints them over the translation e09084f4a4430d2f… (all of the seat's roots in one cut). By AI agents, Wed Nov 11 2026. No macro, syntax, notation, axiom, sorry.
-/
import Derived.Test.YtcfllpgppinofaaChecked
import GoSem.Claim
import GoSem.ClaimJoined
import GoSem.ClaimMapViews
import Derived.JoinedTies
import Derived.KernelRfl
namespace Go.Proofs.Ytcfllpgppinofaa
/- THE CELL 'sum', in the pinned program and in every row, IS THE sha256 OF THE DUMP (.gsa) THAT YtcfllpgppinofaaProg.lean LOADS. Nothing in Lean hashes anything: it is a label: what it is worth is what the hold of that sum in a sandbox is worth. -/
noncomputable def Try.pinned : Pinned := { name := "ytcfllpgppinofaa", sum := "e09084f4a4430d2fe5f70994758c5ce7f61f6789079f0531fb180a860345233d", checked := Try.checked }
namespace Rows
def none {H : Type} : Left H := { results := [], args := [] }

/-- 'laws.FnExactCycleRight': WHATEVER THE INPUT: true; the input reads as it did. -/
def fnExactCycleRightSpec : ChangeSpec := { name := "fnExactCycleRight", fn := fun _ => fun
  | [d1, d2, d3] => { results := [.lit (.bool true)], args := [d1, d2, d3] }
  | _ => none }
def fnExactCycleRightRow : OpenClaim := { program := "ytcfllpgppinofaa", sum := "e09084f4a4430d2fe5f70994758c5ce7f61f6789079f0531fb180a860345233d", func := "loop.example/historychecker/laws.FnExactCycleRight", spec := "fnExactCycleRight", unfollowed := true, recurses := true, plainKeys := false, apart := false }
def FnExactCycleRightSaid : Prop := fnExactCycleRightRow.holds Try.pinned (OpenSpec.ofChange fnExactCycleRightSpec)

/-- ITS FALSE NEIGHBOUR: 'it returns false'. Refute it at one input. -/
def fnExactCycleRightWrong : ChangeSpec := { name := "fnExactCycleRight", fn := fun _ => fun
  | [d1, d2, d3] => { results := [.lit (.bool false)], args := [d1, d2, d3] }
  | _ => none }
def FnExactCycleRightWrongFalsely : Prop := fnExactCycleRightRow.holds Try.pinned (OpenSpec.ofChange fnExactCycleRightWrong)

/-- 'laws.FnExactDropTxn': WHATEVER THE INPUT: true; the input reads as it did. -/
def fnExactDropTxnSpec : ChangeSpec := { name := "fnExactDropTxn", fn := fun _ => fun
  | [d1, d2] => { results := [.lit (.bool true)], args := [d1, d2] }
  | _ => none }
def fnExactDropTxnRow : OpenClaim := { program := "ytcfllpgppinofaa", sum := "e09084f4a4430d2fe5f70994758c5ce7f61f6789079f0531fb180a860345233d", func := "loop.example/historychecker/laws.FnExactDropTxn", spec := "fnExactDropTxn", unfollowed := true, recurses := true, plainKeys := false, apart := false }
def FnExactDropTxnSaid : Prop := fnExactDropTxnRow.holds Try.pinned (OpenSpec.ofChange fnExactDropTxnSpec)

/-- ITS FALSE NEIGHBOUR: 'it returns false'. Refute it at one input. -/
def fnExactDropTxnWrong : ChangeSpec := { name := "fnExactDropTxn", fn := fun _ => fun
  | [d1, d2] => { results := [.lit (.bool false)], args := [d1, d2] }
  | _ => none }
def FnExactDropTxnWrongFalsely : Prop := fnExactDropTxnRow.holds Try.pinned (OpenSpec.ofChange fnExactDropTxnWrong)

/- THE SECOND FORM. 'bulk': how many values and letters a reading holds, each counted each time it is reached (what is shared counts as often as it is met; a slice's spare places count too). A statement '..UptoSaid' is the law's where the arguments, and the package variables that the reading takes, are together of bulk at most 1048576: NARROWER than '..Said'. Prove '..Said' where nothing that the law and all that it calls make is longer than what came in: it says more and counts as full. Else prove '..UptoSaid'. A law counts once. -/
mutual
def uptoBulk {H : Type} : DataW H → Nat
  | .lit (.string bytes) => bytes.length + 1
  | .lit _ => 1
  | .nil => 1
  | .ptr d => uptoBulk d + 1
  | .slice elems spare => uptoBulkAll elems + uptoBulkAll spare + 1
  | .agg parts => uptoBulkAll parts + 1
  | .iface _ d => uptoBulk d + 1
  | .map entries => uptoBulkEntries entries + 1
  | .held _ => 1
def uptoBulkAll {H : Type} : List (DataW H) → Nat
  | [] => 0
  | d :: r => uptoBulk d + uptoBulkAll r
def uptoBulkEntries {H : Type} : List (Lit × DataW H) → Nat
  | [] => 0
  | x :: r => uptoBulkEntry x + uptoBulkEntries r
def uptoBulkEntry {H : Type} : Lit × DataW H → Nat
  | (.string bytes, d) => bytes.length + uptoBulk d + 1
  | (_, d) => uptoBulk d + 1
 end
def uptoSmall : (H : Type) → List (DataW H) → Bool := fun _ ds => decide (uptoBulkAll ds ≤ 1048576)
def OpenSpec.upto (s : _root_.Go.ChangeSpec) : _root_.Go.OpenSpec := { _root_.Go.OpenSpec.ofChange s with cond := some uptoSmall }

/-- 'laws.FnExactCycleRight', WHERE WHAT IT READS IS OF BULK AT MOST 1048576: true; the input reads as it did. -/
def fnExactCycleRightUptoRow : OpenClaim := { program := "ytcfllpgppinofaa", sum := "e09084f4a4430d2fe5f70994758c5ce7f61f6789079f0531fb180a860345233d", func := "loop.example/historychecker/laws.FnExactCycleRight", spec := "fnExactCycleRight", unfollowed := true, recurses := true, plainKeys := false, apart := false, narrowed := true }
def FnExactCycleRightUptoSaid : Prop := fnExactCycleRightUptoRow.holds Try.pinned (OpenSpec.upto fnExactCycleRightSpec)

/-- 'laws.FnExactDropTxn', WHERE WHAT IT READS IS OF BULK AT MOST 1048576: true; the input reads as it did. -/
def fnExactDropTxnUptoRow : OpenClaim := { program := "ytcfllpgppinofaa", sum := "e09084f4a4430d2fe5f70994758c5ce7f61f6789079f0531fb180a860345233d", func := "loop.example/historychecker/laws.FnExactDropTxn", spec := "fnExactDropTxn", unfollowed := true, recurses := true, plainKeys := false, apart := false, narrowed := true }
def FnExactDropTxnUptoSaid : Prop := fnExactDropTxnUptoRow.holds Try.pinned (OpenSpec.upto fnExactDropTxnSpec)

end Rows
end Go.Proofs.Ytcfllpgppinofaa
