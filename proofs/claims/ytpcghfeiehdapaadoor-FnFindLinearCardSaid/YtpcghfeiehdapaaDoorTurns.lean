/- l20Turns and DrawScheduleValid: some list of numbers, in memory of the call's own. -/
import Derived.Test.YtpcghfeiehdapaaDoorPut
import Derived.Test.YtpcghfeiehdapaaDoorToA
namespace Go.Proofs.YtpcghfeiehdapaaDoor
open Go.RowKit
set_option linter.unusedVariables false

/-- A list that was drawn: new memory; the reader has gone on. -/
def Drawn {α : Type} (T : Ty α) (e : TypeId) (w : World) (R P n : Nat) (en : Ending) (w' : World) : Prop :=
  ∃ (xs : List α) (v : Value), en = .returned v ∧ xs.length ≤ n ∧ Own T e w' (New w w') xs v ∧ Rd w' R P ∧ Gr w w' R

/-- What DrawScheduleValid answers. -/
def DrawnSched (w : World) (e : Ending) (w' : World) : Prop := ∃ (many : Int) (xs : List Int) (v : Value), e = .returned (.tuple #[.int .i64 many, v]) ∧ xs.length ≤ 100 ∧ Own tInt 3 w' (New w w') xs v ∧ Below w.heap.size w w'
end Go.Proofs.YtpcghfeiehdapaaDoor
