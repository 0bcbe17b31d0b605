/- The reference's SnapshotRight. -/
import Derived.Test.YtaaagoppecnmmaaGreatDoorSnapR
import Derived.Test.YtaaagoppecnmmaaGreatDoorRunsC
namespace Go.Proofs.YtaaagoppecnmmaaGreatDoor
open Go.RowKit Go.Maps
set_option linter.unusedVariables false
set_option linter.unusedSimpArgs false

theorem take_all_true {α : Type} (p : α → Bool) (l : List α) (k : Nat) (hk : k < l.length) (h : (l.take k).all p = true) (hp : p l[k] = true) : (l.take (k + 1)).all p = true := by
  rw [List.take_succ_eq_append_getElem hk, List.all_append, h]
  simp [hp]
theorem srB_two {h : List Txn} {p : List Int} (ht : twoEach h p = false) : srB h p = false := by
  unfold srB
  by_cases hl : p.length = 2 * (doneL h).length
  · have := snap_right h p hl
    rw [ht, Bool.false_and] at this
    rw [← this, Bool.and_false]
  · rw [decide_eq_false hl]; simp
end Go.Proofs.YtaaagoppecnmmaaGreatDoor
