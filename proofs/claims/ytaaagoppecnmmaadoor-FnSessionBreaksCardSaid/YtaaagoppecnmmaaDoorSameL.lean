/- Comparing equal lists of lists of numbers answers true: sameLists. -/
import Derived.Test.YtaaagoppecnmmaaDoorSameH
namespace Go.Proofs.YtaaagoppecnmmaaDoor
open Go.RowKit
set_option linter.unusedVariables false

set_option maxRecDepth 10000 in
set_option maxHeartbeats 1000000 in
theorem sameLists_any (xs : List (List Int)) (A B : Option Addr) (c d : Nat) (w : World) (hl : xs.length ≤ maxLen) (hn : ∀ x ∈ xs, x.length ≤ maxLen) (hA : Row (tSlice tInt) w (Old w) A xs) (hB : Row (tSlice tInt) w (Old w) B xs) :
    Calls Tryd.prog 43 #[.slice A xs.length c, .slice B xs.length d] w fun e w' => e = .returned (.bool true) ∧ Below w.heap.size w w' := by
  unfold maxLen at hl
  go_enter Tryd.func43, Tryd.ntmps43
  go_wp2
  go_loopw [5] (fun i wr => ∃ k : Nat, k ≤ xs.length ∧ i = .int .i64 k ∧ Below w.heap.size w wr) (fun i _ => xs.length - (intOf i).toNat)
  case atStart => exact ⟨0, Nat.zero_le _, rfl, Below.refl _ _⟩
  case round =>
    obtain ⟨k, hk, rfl, hb⟩ := hrel
    by_cases hlt : k < xs.length
    · have hi0 := hn xs[k] (List.getElem_mem hlt)
      obtain ⟨b, off, A3, c3, rfl, hbS, c0_, hi1, hi2, hi3⟩ := at_IntS hA hb hlt
      obtain ⟨b2, off2, A4, c4, rfl, hbS2, d0_, hj1, hj2, hj3⟩ := at_IntS hB hb hlt
      clear hA hB hn
      have HI := hide hi3; clear hi3; have HJ := hide hj3; clear hj3
      have hki : (k : Int) < (xs.length : Int) := by omega
      have HC := hide (fun n => sameInts_any xs[k] xs[k] A3 A4 c3 c4 (wr.drewN n) hi0 hi0 (HI.out.mono (w' := wr.drewN n) (S' := Old (wr.drewN n)) (fun _ h => h) (fun _ _ => rfl)) (HJ.out.mono (w' := wr.drewN n) (S' := Old (wr.drewN n)) (fun _ h => h) (fun _ _ => rfl)))
      generalize xs[k] = x at c0_ d0_ HC hi0
      rw [decide_eq_true (rfl : x = x)] at HC
      go_wp2
      go_still_tail 8, (by kernel_rfl)
      have hb2 : Below w.heap.size w wr.drew := hb.drew
      change wpList _ _ _ _ _ wr.drew
      have HC2 := hide (show Calls Tryd.prog 22 #[.slice A3 x.length c3, .slice A4 x.length c4] wr.drew fun e w' => e = .returned (.bool true) ∧ Below wr.drew.heap.size wr.drew w' from HC.out 1)
      generalize wr.drew = w2 at hb2 HC2 ⊢
      clear HC
      go_wp2_with (go_at_call 22; refine HC2.out.mono ?_; rintro e w' ⟨rfl, hb'⟩)
      go_roundw
      case rel => exact ⟨k + 1, by omega, by go_num, hb2.trans (hb'.mono hb2.size)⟩
      case measure => simp [intOf]; omega
    · clear hA hB hn
      go_wp2
      go_ret
      exact ⟨rfl, hb⟩
end Go.Proofs.YtaaagoppecnmmaaDoor
