/- The reference's copies of histories: l1OwnTxnList. -/
import Derived.Test.YtmlbfhknapkhgaaDoorOwnTxn
namespace Go.Proofs.YtmlbfhknapkhgaaDoor
open Go.RowKit
set_option linter.unusedVariables false
set_option linter.unusedSimpArgs false

theorem New.of_K {w w' : World} {α : Type} {T : Ty α} {e : TypeId} {xs : List α} {v : Value} (h : Own T e w' (fun b => w.heap.size ≤ b ∧ Old w' b) xs v) : Own T e w' (New w w') xs v := h
theorem take_snoc' {α : Type} (xs : List α) (k : Nat) (h : k < xs.length) : xs.take (k + 1) = xs.take k ++ [xs[k]] := List.take_succ_eq_append_getElem h
end Go.Proofs.YtmlbfhknapkhgaaDoor
