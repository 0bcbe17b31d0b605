/- Numbers in memory of the call's own that can be marked. -/
import Derived.Test.YtpcghfeiehdapaaDoorHold
namespace Go.Proofs.YtpcghfeiehdapaaDoor
open Go.RowKit
set_option linter.unusedVariables false
set_option linter.unusedSimpArgs false

/-- Numbers in memory of S that can be marked. -/
def HoldI (w : World) (S : Nat → Prop) (xs : List Int) (v : Value) : Prop := ∃ g, Hold tInt 3 w S xs v g
theorem HoldI.mono {w w' : World} {S S' : Nat → Prop} {xs : List Int} {v : Value} (h : HoldI w S xs v) (h1 : ∀ b, S b → S' b) (h2 : ∀ b, S b → w'.heap[b]? = w.heap[b]?) : HoldI w' S' xs v := by
  obtain ⟨g, h⟩ := h
  exact ⟨g, h.mono h1 h2⟩
theorem HoldI.sl {w : World} {S : Nat → Prop} {xs : List Int} {v : Value} (h : HoldI w S xs v) : Sl tInt w S xs v := by
  obtain ⟨g, h⟩ := h
  exact h.sl
end Go.Proofs.YtpcghfeiehdapaaDoor
