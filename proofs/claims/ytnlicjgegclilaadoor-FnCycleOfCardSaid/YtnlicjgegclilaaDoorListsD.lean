/- l20Lists: some lists of numbers. -/
import Derived.Test.YtnlicjgegclilaaDoorNest
import Derived.Test.YtnlicjgegclilaaDoorSpansD
namespace Go.Proofs.YtnlicjgegclilaaDoor
open Go.RowKit
set_option linter.unusedVariables false

theorem infoIntSD : (Tryd.prog.info? 24).map (fun i => (i.zero, i.size, i.bytes)) = some (some (.slice none 0 0), 1, 24) := by kernel_rfl
/-- Lists that were drawn: the reader has gone on. -/
def DrawnS {α : Type} (T : Ty α) (w : World) (R P n : Nat) (en : Ending) (w' : World) : Prop :=
  ∃ (xs : List α) (v : Value), en = .returned v ∧ xs.length ≤ n ∧ Sl T w' (Old w') xs v ∧ Rd w' R P ∧ Gr w w' R

/-- Lists that were drawn for a law. -/
def DrawnSL {α : Type} (T : Ty α) (n : Nat) (w : World) (en : Ending) (w' : World) : Prop := ∃ (xs : List α) (v : Value), en = .returned v ∧ xs.length ≤ n ∧ Sl T w' (Old w') xs v ∧ Below w.heap.size w w'
end Go.Proofs.YtnlicjgegclilaaDoor
