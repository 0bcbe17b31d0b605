/- Plain laws: the search for serial orders. -/
import Derived.Test.YtkcobaimcfggjaaGreatDoorSearchM
import Derived.Test.YtkcobaimcfggjaaGreatDoorHMath
namespace Go.Proofs.YtkcobaimcfggjaaGreatDoor
open Go.RowKit
set_option linter.unusedVariables false
set_option linter.unusedSimpArgs false

def goodR (alw : List Int → Int → Bool) (h : List Txn) (o : List Int) : Bool := runsOK h o && stepsOK alw o
theorem goodR_prefix (alw : List Int → Int → Bool) (h : List Txn) (a b : List Int) (hg : goodR alw h (a ++ b) = true) : goodR alw h a = true := by
  unfold goodR at hg ⊢
  rw [Bool.and_eq_true] at hg ⊢
  exact ⟨runsOK_prefix h a b hg.1, stepsOK_prefix alw a b hg.2⟩
theorem goodR_nil (alw : List Int → Int → Bool) (h : List Txn) : goodR alw h [] = true := rfl
theorem goodR_snoc (alw : List Int → Int → Bool) (h : List Txn) (pre : List Int) (x : Int) (s : St) (hr : runTx h St0 pre = some s) (hs : goodR alw h pre = true) :
    goodR alw h (pre ++ [x]) = ((runOps s ((h[x.toNat]?.map Txn.Ops).getD [])).isSome && alw pre x) := by
  unfold goodR at hs ⊢
  rw [Bool.and_eq_true] at hs
  rw [stepsOK_snoc, hs.2, Bool.true_and]
  congr 1
  unfold runsOK
  rw [runTx_append, hr]
  simp only [Option.bind_some, runTx]
  cases runOps s ((h[x.toNat]?.map Txn.Ops).getD []) <;> rfl
theorem runTx_snoc (h : List Txn) (pre : List Int) (n : Nat) (hn : n < h.length) (s sn : St) (hr : runTx h St0 pre = some s) (h2 : runOps s h[n].Ops = some sn) : runTx h St0 (pre ++ [(n : Int)]) = some sn := by
  rw [runTx_append, hr]
  simp only [Option.bind_some, runTx, Int.toNat_natCast, List.getElem?_eq_getElem hn, Option.map_some, Option.getD_some, h2]
end Go.Proofs.YtkcobaimcfggjaaGreatDoor
