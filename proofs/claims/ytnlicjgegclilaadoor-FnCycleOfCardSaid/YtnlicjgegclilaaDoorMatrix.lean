/- The matrix of edges: bit sets in an array of six words (matrixOf, allOf, has). -/
import Derived.Test.YtnlicjgegclilaaDoorCyc
import Derived.Test.YtnlicjgegclilaaDoorIdx
import Derived.Laws.BitsAllLaws
import Derived.Laws.ShiftsVarLaws
import Derived.WalkSmall
namespace Go.Proofs.YtnlicjgegclilaaDoor
open Go.RowKit
set_option linter.unusedVariables false

def row6 (M : Nat → Nat) : Array Value := #[.int .u64 (M 0 : Nat), .int .u64 (M 1 : Nat), .int .u64 (M 2 : Nat), .int .u64 (M 3 : Nat), .int .u64 (M 4 : Nat), .int .u64 (M 5 : Nat)]
def matVal (M : Nat → Nat) : Value := .agg (row6 M)
theorem row6_get (M : Nat → Nat) : ∀ (n : Nat), n < 6 → (row6 M)[n]? = some (.int .u64 (M n : Nat))
  | 0, _ => rfl | 1, _ => rfl | 2, _ => rfl | 3, _ => rfl | 4, _ => rfl | 5, _ => rfl
  | n + 6, h => absurd h (by omega)
theorem row6_set (M : Nat → Nat) (v : Nat) : ∀ (n : Nat), n < 6 → (row6 M).setIfInBounds n (.int .u64 (v : Nat)) = row6 (fun i => if i = n then v else M i)
  | 0, _ => rfl | 1, _ => rfl | 2, _ => rfl | 3, _ => rfl | 4, _ => rfl | 5, _ => rfl
  | n + 6, h => absurd h (by omega)
theorem row6_add (M : Nat → Nat) (e : Edge) (n : Nat) (hn : n < 6) (he : e.From = (n : Int)) :
    (row6 M).setIfInBounds n (.int .u64 ((M n ||| 2 ^ e.To.toNat : Nat) : Nat)) = row6 (addEdge M e) := by
  rw [row6_set M _ n hn]
  congr 1
  funext i
  unfold addEdge
  rw [he]
  by_cases h : i = n
  · subst h; simp
  · rw [if_neg h, if_neg (by omega)]
/-- '1 << j' as the walk spells it. -/
theorem shl1 (j : Nat) (hj : j < 6) : IntKind.u64.wrap (2 ^ j) = ((2 ^ j : Nat) : Int) := by
  match j, hj with
  | 0, _ => rfl | 1, _ => rfl | 2, _ => rfl | 3, _ => rfl | 4, _ => rfl | 5, _ => rfl
theorem pow6 {j : Nat} (hj : j < 6) : 2 ^ j < 64 := Nat.pow_lt_pow_right (by decide) hj
theorem or_u64 (a j : Nat) (ha : a < 64) (hj : j < 6) : bits .or .u64 (a : Int) ((2 ^ j : Nat) : Int) = ((a ||| 2 ^ j : Nat) : Int) :=
  u64_or_nat a (2 ^ j) (by omega) (by have := pow6 hj; omega)
theorem or_shl (a j : Nat) (ha : a < 64) (hj : j < 6) : bits .or .u64 (a : Int) (IntKind.u64.wrap (2 ^ j)) = ((a ||| 2 ^ j : Nat) : Int) := by
  rw [shl1 j hj, or_u64 a j ha hj]
theorem bit_int (a j : Nat) : ((a : Int) / 2 ^ j) = ((a / 2 ^ j : Nat) : Int) := by
  rw [Int.natCast_ediv, Int.natCast_pow]; rfl
theorem shr_and (a j : Nat) (ha : a < 64) : bits .and .u64 ((a : Int) / 2 ^ j) 1 = if a.testBit j then 1 else 0 := by
  have h2 : a / 2 ^ j ≤ a := Nat.div_le_self _ _
  have hb := bit_shift a j
  rw [bit_int]
  generalize a / 2 ^ j = q at h2 hb
  rw [and_one_u64 _ (by omega) (by omega)]
  cases hq : a.testBit j <;> simp only [hq] at hb ⊢ <;> simp at hb ⊢ <;> omega
theorem shr_eq (a j : Nat) (ha : a < 64) : (bits .and .u64 ((a : Int) / 2 ^ j) 1 == 1) = a.testBit j := by
  rw [shr_and a j ha]
  cases a.testBit j <;> rfl

set_option maxRecDepth 10000 in
set_option maxHeartbeats 1000000 in
theorem has_ (M : Nat → Nat) (n j : Nat) (hn : n < 6) (hj : j < 6) (hM : M n < 64) (w : World) :
    Calls Tryd.prog 22 #[.agg (row6 M), .int .i64 (n : Nat), .int .i64 (j : Nat)] w fun e w' => e = .returned (.bool ((M n).testBit j)) ∧ Below w.heap.size w w' := by
  have HB := hide (show Below w.heap.size w (w.alloc (.cells (row6 M) 44)) from (Below.refl _ _).alloc (Nat.le_refl _) _)
  have hc := row6_get M n hn
  have hbit := shr_eq (M n) j hM
  cases hq : (M n).testBit j with
  | true =>
    rw [hq] at hbit
    go_enter Tryd.func22, Tryd.ntmps22
    go_wp2
    go_ret
    exact ⟨rfl, HB.out⟩
  | false =>
    rw [hq] at hbit
    go_enter Tryd.func22, Tryd.ntmps22
    go_wp2
    go_ret
    exact ⟨rfl, HB.out⟩
end Go.Proofs.YtnlicjgegclilaaDoor
