/- l20Spans and what draws spans: some list of spans, in memory of the call's own. -/
import Derived.Test.YtnlicjgegclilaaDoorHBox
namespace Go.Proofs.YtnlicjgegclilaaDoor
open Go.RowKit
set_option linter.unusedVariables false

/-- A list that was drawn for a law. -/
def DrawnL {α : Type} (T : Ty α) (e : TypeId) (n : Nat) (w : World) (en : Ending) (w' : World) : Prop := ∃ (xs : List α) (v : Value), en = .returned v ∧ xs.length ≤ n ∧ Own T e w' (New w w') xs v ∧ Below w.heap.size w w'
def DrawnIL {α : Type} (T : Ty α) (e : TypeId) (n : Nat) (w : World) (en : Ending) (w' : World) : Prop := ∃ (m : Int) (xs : List α) (v : Value), en = .returned (.tuple #[.int .i64 m, v]) ∧ xs.length ≤ n ∧ Own T e w' (New w w') xs v ∧ Below w.heap.size w w'
end Go.Proofs.YtnlicjgegclilaaDoor
