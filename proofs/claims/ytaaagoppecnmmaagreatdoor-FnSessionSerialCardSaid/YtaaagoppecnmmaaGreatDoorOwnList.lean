/- The conversions of the laws package make new memory that reads as their argument: transactions. The reference's copies of transactions. The reference's copies of histories: l1OwnTxnList. -/
import Derived.Test.YtaaagoppecnmmaaGreatDoorProg
import Derived.Test.YtaaagoppecnmmaaGreatDoorBase
import Derived.Test.YtaaagoppecnmmaaGreatDoorElems
import Derived.Test.YtaaagoppecnmmaaGreatDoorToA
import Derived.Test.YtaaagoppecnmmaaGreatDoorPut
import Derived.Test.YtaaagoppecnmmaaGreatDoorRanges
namespace Go.Proofs.YtaaagoppecnmmaaGreatDoor
open Go.RowKit
set_option linter.unusedVariables false
set_option linter.unusedSimpArgs false

theorem infoTxn_ : (Tryz.prog.info? 64).map (fun i => (i.zero, i.size, i.bytes)) = some (some (.agg #[.int .i64 0, .slice none 0 0, .bool false]), 3, 40) := by kernel_rfl
theorem infoOpT : (Tryz.prog.info? 61).map (fun i => (i.zero, i.size, i.bytes)) = some (some (.agg #[.int .i64 0, .int .i64 0, .int .i64 0]), 3, 24) := by kernel_rfl
theorem New.of_K {w w' : World} {α : Type} {T : Ty α} {e : TypeId} {xs : List α} {v : Value} (h : Own T e w' (fun b => w.heap.size ≤ b ∧ Old w' b) xs v) : Own T e w' (New w w') xs v := h
theorem take_snoc' {α : Type} (xs : List α) (k : Nat) (h : k < xs.length) : xs.take (k + 1) = xs.take k ++ [xs[k]] := List.take_succ_eq_append_getElem h
end Go.Proofs.YtaaagoppecnmmaaGreatDoor
