/- The reference's SessionEdges, of valid histories. -/
import Derived.Test.YtaaagoppecnmmaaDoorDone
import Derived.Test.YtaaagoppecnmmaaDoorHistS
import Derived.BigQuiet
namespace Go.Proofs.YtaaagoppecnmmaaDoor
open Go.RowKit
set_option linter.unusedVariables false
set_option linter.unusedSimpArgs false

def doneAt (h : List Txn) (k : Nat) : Bool := (h[k]?.map Txn.Done).getD false
def sesAt (h : List Txn) (k : Nat) : Int := (h[k]?.map Txn.Session).getD 0
def pairB (h : List Txn) (k j : Nat) : Bool := doneAt h j && sesAt h j == sesAt h k
/-- The next committed transaction of the same session. -/
def nextS (h : List Txn) (k : Nat) : Option Nat := (List.range h.length).find? fun j => decide (k < j) && pairB h k j
def edgeAt (h : List Txn) (k : Nat) : List Edge := if doneAt h k then (match nextS h k with | some j => [⟨(k : Int), (j : Int), 4⟩] | none => []) else []
def sEdges (h : List Txn) (n : Nat) : List Edge := (List.range n).flatMap (edgeAt h)
theorem sEdges_succ (h : List Txn) (n : Nat) : sEdges h (n + 1) = sEdges h n ++ edgeAt h n := by
  unfold sEdges
  rw [List.range_succ, List.flatMap_append]
  simp
theorem edgeAt_len (h : List Txn) (k : Nat) : (edgeAt h k).length ≤ 1 := by
  unfold edgeAt
  split
  · split <;> simp
  · simp
theorem sEdges_len (h : List Txn) : ∀ n, (sEdges h n).length ≤ n
  | 0 => by simp [sEdges]
  | n + 1 => by
    rw [sEdges_succ, List.length_append]
    have := sEdges_len h n; have := edgeAt_len h n; omega
theorem nextS_some {h : List Txn} {k j : Nat} (hk : k < j) (hj : j < h.length) (hp : pairB h k j = true) (hn : ∀ m, k < m → m < j → pairB h k m = false) : nextS h k = some j := by
  unfold nextS
  rw [List.find?_eq_some_iff_append]
  refine ⟨by simp [hk, hp], List.range j, (List.range' (j + 1) (h.length - j - 1)), ?_, fun m hm => ?_⟩
  · rw [List.range_eq_range', List.range_eq_range', ← List.range'_succ, show h.length - j - 1 + 1 = h.length - j by omega]
    have := List.range'_append (s := 0) (m := j) (n := h.length - j) (step := 1)
    simp only [Nat.one_mul, Nat.zero_add] at this
    rw [this]
    congr 1; omega
  · have hmj : m < j := List.mem_range.1 hm
    by_cases hkm : k < m
    · simp [hkm, hn m hkm hmj]
    · simp [hkm]
theorem nextS_none {h : List Txn} {k : Nat} (hn : ∀ m, k < m → m < h.length → pairB h k m = false) : nextS h k = none := by
  unfold nextS
  rw [List.find?_eq_none]
  intro m hm
  have hml := List.mem_range.1 hm
  by_cases hkm : k < m
  · simp [hkm, hn m hkm hml]
  · simp [hkm]
theorem doneAt_nat (h : List Txn) (k : Nat) (hk : k < h.length) : doneAt h k = h[k].Done := by unfold doneAt; rw [List.getElem?_eq_getElem hk]; rfl
theorem sesAt_nat (h : List Txn) (k : Nat) (hk : k < h.length) : sesAt h k = h[k].Session := by unfold sesAt; rw [List.getElem?_eq_getElem hk]; rfl
end Go.Proofs.YtaaagoppecnmmaaDoor
