/- The reference's l4Before, LastWrites, FirstReads, l13Count, l13Has. -/
import Derived.Test.YtaaagoppecnmmaaGreatDoorFirstI
import Derived.Test.YtaaagoppecnmmaaGreatDoorHistS
import Derived.BigQuiet
import Derived.Deep.RegionHeld3
namespace Go.Proofs.YtaaagoppecnmmaaGreatDoor
open Go.RowKit Go.Maps
set_option linter.unusedVariables false
set_option linter.unusedSimpArgs false

theorem count_take (l : List Int) (n : Int) (k : Nat) (hk : k < l.length) : (l.take (k + 1)).count n = (l.take k).count n + (if l[k] = n then 1 else 0) := by
  rw [List.take_succ_eq_append_getElem hk, List.count_append]
  congr 1
  split
  · rename_i h; rw [h]; simp
  · rename_i h; exact List.count_eq_zero.2 (by simp; exact fun e => h e.symm)
theorem beforeV_none {ops : List Op} {key : Int} (h : lastOn ops key = none) : beforeV ops key = -1 := by unfold beforeV; rw [h]; rfl
theorem beforeV_some {ops : List Op} {key : Int} {o : Op} (h : lastOn ops key = some o) : beforeV ops key = o.Value := by unfold beforeV; rw [h]; rfl
theorem fresh_neg {ops : List Op} {k : Nat} (hok : ∀ o ∈ ops, opOk o = true) (key : Int) : decide (beforeV (ops.take k) key < 0) = (lastOn (ops.take k) key).isNone := by
  cases h : lastOn (ops.take k) key with
  | none => rw [beforeV_none h]; rfl
  | some o =>
    rw [beforeV_some h]
    have := (opOk_parts (hok o (List.mem_of_mem_take (lastOn_some h).1))).2.2.1
    simp; omega
end Go.Proofs.YtaaagoppecnmmaaGreatDoor
