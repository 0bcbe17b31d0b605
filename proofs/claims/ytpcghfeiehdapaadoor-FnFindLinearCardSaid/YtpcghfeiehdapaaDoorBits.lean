/- Small sets as bits. -/
import Derived.Test.YtpcghfeiehdapaaDoorBase
import Derived.Laws.BitsAllLaws
import Derived.Laws.ShiftsVarLaws
import Derived.Laws.BitsLemmas
import Derived.WalkSmall
namespace Go.Proofs.YtpcghfeiehdapaaDoor
open Go.RowKit
set_option linter.unusedVariables false
set_option linter.unusedSimpArgs false

theorem bit_shift (x j : Nat) : x / 2 ^ j % 2 = (if x.testBit j then 1 else 0) := by
  rw [Nat.testBit_eq_decide_div_mod_eq]
  have := Nat.mod_two_eq_zero_or_one (x / 2 ^ j)
  split <;> simp_all
theorem shl1 (j : Nat) (hj : j < 6) : IntKind.u64.wrap (2 ^ j) = ((2 ^ j : Nat) : Int) := by
  match j, hj with
  | 0, _ => rfl | 1, _ => rfl | 2, _ => rfl | 3, _ => rfl | 4, _ => rfl | 5, _ => rfl
theorem pow6 {j : Nat} (hj : j < 6) : 2 ^ j < 64 := Nat.pow_lt_pow_right (by decide) hj
theorem or_u64 (a j : Nat) (ha : a < 64) (hj : j < 6) : bits .or .u64 (a : Int) ((2 ^ j : Nat) : Int) = ((a ||| 2 ^ j : Nat) : Int) :=
  u64_or_nat a (2 ^ j) (by omega) (by have := pow6 hj; omega)
theorem or_shl (a j : Nat) (ha : a < 64) (hj : j < 6) : bits .or .u64 (a : Int) (IntKind.u64.wrap (2 ^ j)) = ((a ||| 2 ^ j : Nat) : Int) := by
  rw [shl1 j hj, or_u64 a j ha hj]
theorem bit_int (a j : Nat) : ((a : Int) / 2 ^ j) = ((a / 2 ^ j : Nat) : Int) := by
  rw [Int.natCast_ediv, Int.natCast_pow]; rfl
theorem shr_and (a j : Nat) (ha : a < 64) : bits .and .u64 ((a : Int) / 2 ^ j) 1 = if a.testBit j then 1 else 0 := by
  have h2 : a / 2 ^ j ≤ a := Nat.div_le_self _ _
  have hb := bit_shift a j
  rw [bit_int]
  generalize a / 2 ^ j = q at h2 hb
  rw [and_one_u64 _ (by omega) (by omega)]
  cases hq : a.testBit j <;> simp only [hq] at hb ⊢ <;> simp at hb ⊢ <;> omega
theorem shr_eq (a j : Nat) (ha : a < 64) : (bits .and .u64 ((a : Int) / 2 ^ j) 1 == 1) = a.testBit j := by
  rw [shr_and a j ha]
  cases a.testBit j <;> rfl
theorem shr_eq0 (a j : Nat) (ha : a < 64) : (bits .and .u64 ((a : Int) / 2 ^ j) 1 == 0) = !a.testBit j := by
  rw [shr_and a j ha]
  cases a.testBit j <;> rfl
/-- The bits of gone are the numbers of pre. -/
def BitsOf (gone : Nat) (pre : List Int) : Prop := gone < 64 ∧ ∀ j : Nat, gone.testBit j = pre.contains (j : Int)
theorem BitsOf.zero : BitsOf 0 [] := ⟨by decide, fun j => by simp⟩
theorem BitsOf.snoc {gone : Nat} {pre : List Int} (h : BitsOf gone pre) (n : Nat) (hn : n < 6) : BitsOf (gone ||| 2 ^ n) (pre ++ [(n : Int)]) := by
  refine ⟨Nat.or_lt_two_pow (n := 6) h.1 (pow6 hn), fun j => ?_⟩
  rw [Nat.testBit_or, h.2 j, Nat.testBit_two_pow]
  rw [Bool.eq_iff_iff]
  simp only [List.contains_iff_mem, List.mem_append, List.mem_singleton, Bool.or_eq_true, decide_eq_true_eq]
  constructor
  · rintro (h | h)
    · exact .inl h
    · exact .inr (by omega)
  · rintro (h | h)
    · exact .inl h
    · exact .inr (by omega)
end Go.Proofs.YtpcghfeiehdapaaDoor
