/- slices.Index and slices.Contains at ints, and how often a number is in a list. -/
import Derived.Test.YtnlicjgegclilaaDoorProg
import Derived.Test.YtnlicjgegclilaaDoorElems
namespace Go.Proofs.YtnlicjgegclilaaDoor
open Go.RowKit

set_option maxHeartbeats 400000 in
theorem index_Int (xs : List Int) (x : Int) (A : Option Addr) (c : Nat) (w : World) (hl : xs.length ≤ maxLen) (hA : Row tInt w (Old w) A xs) :
    Calls Tryd.prog 45 #[.slice A xs.length c, .int .i64 x] w fun e w' => e = .returned (.int .i64 (idx (fun y => x == y) xs)) ∧ w = w' := by
  unfold maxLen at hl
  go_enter Tryd.func45, Tryd.ntmps45
  go_wp2
  go_loop [8] (fun i => ∃ k : Nat, k ≤ xs.length ∧ i = .int .i64 k ∧ Hid (∀ j (hj : j < xs.length), j < k → (x == xs[j]) = false)) (fun i => xs.length - (intOf i).toNat)
  case atStart => exact ⟨0, Nat.zero_le _, rfl, (fun j hj h => absurd h (by omega))⟩
  case round =>
    obtain ⟨k, hk, rfl, hI⟩ := hrel
    by_cases hlt : k < xs.length
    · obtain ⟨b, off, rfl, hbS, c0⟩ := at_Int hA (Below.refl _ _) hlt
      clear hA
      cases hq : (x == xs[k]) with
      | true =>
        go_wp2
        go_ret
        exact ⟨ret_int (idx_hit (fun y => x == y) xs k hlt hq hI.out).symm, rfl⟩
      | false =>
        go_wp2
        go_round
        case rel => exact ⟨k + 1, by omega, by go_num, (fun j hj h => by rcases Nat.lt_succ_iff_lt_or_eq.1 h with h | rfl; exact hI.out j hj h; exact hq)⟩
        case measure => simp [intOf]; omega
    · have HI := hide (idx_miss (fun y => x == y) xs (fun j hj => hI.out j hj (by omega)))
      clear hI hA
      go_wp2
      go_ret
      exact ⟨ret_int HI.out.symm, rfl⟩
theorem contains_Int (xs : List Int) (x : Int) (A : Option Addr) (c : Nat) (w : World) (hl : xs.length ≤ maxLen) (hA : Row tInt w (Old w) A xs) :
    Calls Tryd.prog 38 #[.slice A xs.length c, .int .i64 x] w fun e w' => e = .returned (.bool (xs.any (fun y => x == y))) ∧ w = w' := by
  have H := hide (index_Int xs x A c w hl hA)
  clear hA
  go_enter Tryd.func38, Tryd.ntmps38
  go_wp2_with (go_at_call 45; refine H.out.mono ?_; rintro e w' ⟨rfl, rfl⟩)
  go_ret
  refine ⟨ret_bool ?_, rfl⟩
  rw [Bool.eq_iff_iff, ← idx_neg, decide_eq_true_iff]

theorem countP_take {α : Type} (p : α → Bool) (xs : List α) (k : Nat) (h : k < xs.length) : (xs.take (k + 1)).countP p = (xs.take k).countP p + (if p xs[k] then 1 else 0) := by
  rw [List.take_succ_eq_append_getElem h, List.countP_append, List.countP_cons, List.countP_nil]
  omega
set_option maxHeartbeats 400000 in
theorem l13Count (xs : List Int) (x : Int) (A : Option Addr) (c : Nat) (w : World) (hl : xs.length ≤ maxLen) (hA : Row tInt w (Old w) A xs) :
    Calls Tryd.prog 23 #[.slice A xs.length c, .int .i64 x] w fun e w' => e = .returned (.int .i64 (xs.countP (fun y => y == x) : Nat)) ∧ w = w' := by
  unfold maxLen at hl
  go_enter Tryd.func23, Tryd.ntmps23
  go_wp2
  go_loop [5, 6] (fun m i => ∃ k n : Nat, k ≤ xs.length ∧ i = .int .i64 k ∧ m = .int .i64 n ∧ n ≤ k ∧ Hid (n = (xs.take k).countP (fun y => y == x))) (fun _ i => xs.length - (intOf i).toNat)
  case atStart => exact ⟨0, 0, Nat.zero_le _, rfl, rfl, Nat.le_refl _, by simp [Hid]⟩
  case round =>
    obtain ⟨k, n, hk, rfl, rfl, hnk, hN⟩ := hrel
    by_cases hlt : k < xs.length
    · obtain ⟨b, off, rfl, hbS, c0⟩ := at_Int hA (Below.refl _ _) hlt
      have HT := hide (countP_take (fun y => y == x) xs k hlt)
      clear hA
      cases hq : (xs[k] == x) with
      | true =>
        have HQ := hide (show (xs.take (k + 1)).countP (fun y => y == x) = n + 1 by rw [HT.out, hN.out]; simp only [hq]; rfl)
        go_wp2
        go_round
        case rel => exact ⟨k + 1, n + 1, by omega, by go_num, by go_num, by omega, HQ.out.symm⟩
        case measure => simp [intOf]; omega
      | false =>
        have HQ := hide (show (xs.take (k + 1)).countP (fun y => y == x) = n by rw [HT.out, hN.out]; simp only [hq]; rfl)
        go_wp2
        go_round
        case rel => exact ⟨k + 1, n, by omega, by go_num, rfl, by omega, HQ.out.symm⟩
        case measure => simp [intOf]; omega
    · obtain rfl : k = xs.length := by omega
      clear hA
      go_wp2
      go_ret
      exact ⟨ret_int (by have := hN.out; rw [List.take_length] at this; rw [this]), rfl⟩
end Go.Proofs.YtnlicjgegclilaaDoor
