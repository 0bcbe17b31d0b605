/- Plain laws: dropping transactions from the last one down while there is no serial order. -/
import Derived.Test.YtmlbfhknapkhgaaFindF
import Derived.Test.YtmlbfhknapkhgaaDropM
namespace Go.Proofs.Ytmlbfhknapkhgaa
open Go.RowKit
set_option linter.unusedVariables false

def serB (xs : List Txn) : Bool := (serF xs).isSome
def shrStep (out : List Txn) (n : Nat) : List Txn := if serB (dropL out n) then out else dropL out n
theorem shrStep_t {out : List Txn} {n : Nat} (h : serB (dropL out n) = true) : shrStep out n = out := by unfold shrStep; rw [if_pos h]
theorem shrStep_f {out : List Txn} {n : Nat} (h : serB (dropL out n) = false) : shrStep out n = dropL out n := by unfold shrStep; rw [if_neg (by rw [h]; decide)]
/-- What is left when j numbers, from the last one down, have been tried. -/
def shrT (xs : List Txn) : Nat → List Txn
  | 0 => xs
  | j + 1 => shrStep (shrT xs j) (xs.length - 1 - j)
theorem shr_valid {xs : List Txn} (hv : histV xs = true) : ∀ j, histV (shrT xs j) = true
  | 0 => hv
  | j + 1 => by
    unfold shrT shrStep
    split
    · exact shr_valid hv j
    · exact dropL_valid (shr_valid hv j) _
theorem shr_len {xs : List Txn} : ∀ j, j ≤ xs.length → xs.length ≤ (shrT xs j).length + j
  | 0, _ => Nat.le_refl _
  | j + 1, hj => by
    have h := shr_len (xs := xs) j (by omega)
    unfold shrT shrStep
    split
    · omega
    · have := dropL_length (h := shrT xs j) (n := xs.length - 1 - j) (by omega)
      omega
def badB (xs : List Txn) : Bool := histV xs && !serB xs
def badR (xs : List Txn) : List Txn := if badB xs then shrT xs xs.length else []
theorem opsN_le : ∀ (l : List Txn), (∀ t ∈ l, t.Ops.length ≤ 6) → opsN l ≤ 6 * l.length
  | [], _ => by simp [opsN, tot]
  | t :: l, h => by
    have h1 := opsN_le l (fun t ht => h t (List.mem_cons_of_mem _ ht))
    have h2 := h t List.mem_cons_self
    have h3 : opsN (t :: l) = t.Ops.length + opsN l := by simp [opsN, tot]
    rw [h3, List.length_cons]
    omega
theorem hist_small {xs : List Txn} (hv : histV xs = true) : xs.length ≤ 6 ∧ (∀ t ∈ xs, t.Ops.length ≤ 6) ∧ opsN xs ≤ 36 := by
  obtain ⟨h6, hts⟩ := histV_parts hv
  have h2 : ∀ t ∈ xs, t.Ops.length ≤ 6 := fun t ht => (txnOk_parts (hts t ht)).2
  have h3 := opsN_le xs h2
  exact ⟨h6, h2, by omega⟩
theorem badR_len (xs : List Txn) : (badR xs).length ≤ 1048576 ∧ ∀ x ∈ badR xs, x.Ops.length ≤ 1048576 := by
  unfold badR
  split
  · rename_i h
    unfold badB at h
    rw [Bool.and_eq_true] at h
    obtain ⟨h1, h2, _⟩ := hist_small (shr_valid h.1 xs.length)
    exact ⟨by omega, fun x hx => by have := h2 x hx; omega⟩
  · exact ⟨by simp, fun x hx => by cases hx⟩
end Go.Proofs.Ytmlbfhknapkhgaa
