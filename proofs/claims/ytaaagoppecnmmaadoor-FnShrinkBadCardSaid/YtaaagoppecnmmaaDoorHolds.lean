/- Lists in new memory that can be marked and asked for their marks. -/
import Derived.Test.YtaaagoppecnmmaaDoorMarkT
import Derived.Test.YtaaagoppecnmmaaDoorDropI
import Derived.Test.YtaaagoppecnmmaaDoorDropS
namespace Go.Proofs.YtaaagoppecnmmaaDoor
open Go.RowKit
set_option linter.unusedVariables false

/-- Transactions in memory of S, each with its operations in a block of its own. -/
def HoldT (w : World) (S : Nat → Prop) (xs : List Txn) (v : Value) : Prop :=
  ∃ ps g, ps.map Prod.fst = xs ∧ Hold (tTxnB 71) 42 w S ps v g ∧ Up ps
theorem HoldT.mono {w w' : World} {S S' : Nat → Prop} {xs : List Txn} {v : Value} (h : HoldT w S xs v) (h1 : ∀ b, S b → S' b) (h2 : ∀ b, S b → w'.heap[b]? = w.heap[b]?) : HoldT w' S' xs v := by
  obtain ⟨ps, g, e, h3, h4⟩ := h
  exact ⟨ps, g, e, h3.mono h1 h2, h4⟩
theorem HoldT.sl {w : World} {S : Nat → Prop} {xs : List Txn} {v : Value} (h : HoldT w S xs v) : Sl tTxn w S xs v := by
  obtain ⟨ps, g, rfl, h3, h4⟩ := h
  exact h3.sl.txnB
theorem FreshTxns.holdT {w w' : World} {xs : List Txn} {v : Value} (h : FreshTxns w w' xs v) : HoldT w' (New w w') xs v := h
/-- The lengths of the operations. -/
def lensT (xs : List Txn) : List Nat := xs.map fun x => x.Ops.length
theorem Own.slNew {w w' : World} {xs : List Txn} {v : Value} {e e' : TypeId} (h : Own (tTxnO e) e' w' (New w w') xs v) : Sl tTxn w' (New w w') xs v := h.weakTxn.sl
theorem dropR_len (xs : List Txn) (n : Int) : (dropR xs n).length ≤ 1048576 ∧ ∀ x ∈ dropR xs n, x.Ops.length ≤ 1048576 := by
  unfold dropR
  split
  · rename_i h
    unfold dropB at h
    rw [Bool.and_eq_true] at h
    have hv := dropL_valid h.1 n.toNat
    obtain ⟨h1, h2⟩ := histV_parts hv
    exact ⟨by omega, fun x hx => by have := (txnOk_parts (h2 x hx)).2; omega⟩
  · exact ⟨by simp, fun x hx => by cases hx⟩
theorem specDropTxnR (xs : List Txn) (n : Int) (A : Option Addr) (c : Nat) (w : World) (hm : xs.length ≤ 1048576) (ho : ∀ x ∈ xs, x.Ops.length ≤ 1048576) (ht : opsN xs ≤ 1048576) (hA : Row tTxn w (Old w) A xs) :
    Calls Tryd.prog 14 #[.slice A xs.length c, .int .i64 n] w fun e w' => ∃ v, e = .returned (.tuple #[v, .bool (dropB xs n)]) ∧ Sl tTxn w' (New w w') (dropR xs n) v ∧ Below w.heap.size w w' :=
  (specDropTxn xs n A c w hm ho ht hA).mono fun e w' ⟨v, h1, h2, h3⟩ => ⟨v, h1, h2.slNew, h3⟩
theorem implDropTxnR (xs : List Txn) (n : Int) (A : Option Addr) (c : Nat) (w : World) (hm : xs.length ≤ maxLen) (hA : Row tTxn w (Old w) A xs) :
    Calls Tryd.prog 13 #[.slice A xs.length c, .int .i64 n] w fun e w' => ∃ v, e = .returned (.tuple #[v, .bool (dropB xs n)]) ∧ HoldT w' (New w w') (dropR xs n) v ∧ Below w.heap.size w w' :=
  (implDropTxn xs n A c w hm hA).mono fun e w' ⟨v, h1, h2, h3⟩ => ⟨v, h1, h2, h3⟩
end Go.Proofs.YtaaagoppecnmmaaDoor
