/- sameInts: two lists of numbers are compared. Comparing equal histories answers true: sameOps, sameTxn, sameHistory. Comparing equal lists of lists of numbers answers true: sameLists. -/
import Derived.Test.YtkcobaimcfggjaaGreatDoorProg
import Derived.BigQuiet
import Derived.Test.YtkcobaimcfggjaaGreatDoorElems
namespace Go.Proofs.YtkcobaimcfggjaaGreatDoor
open Go.RowKit
set_option linter.unusedVariables false
set_option linter.unusedSimpArgs false

set_option maxRecDepth 10000 in
set_option maxHeartbeats 2000000 in
theorem sameInts_any (xs ys : List Int) (A B : Option Addr) (c d : Nat) (w : World) (hl : xs.length ≤ maxLen) (hm : ys.length ≤ maxLen) (hA : Row tInt w (Old w) A xs) (hB : Row tInt w (Old w) B ys) :
    Calls Tryz.prog 29 #[.slice A xs.length c, .slice B ys.length d] w fun e w' => e = .returned (.bool (decide (xs = ys))) ∧ Below w.heap.size w w' := by
  unfold maxLen at hl hm
  have HA := hide hA; have HB := hide hB
  clear hA hB
  by_cases hlen : xs.length = ys.length
  · have HL := hide hlen
    have hlenI : (xs.length : Int) = (ys.length : Int) := by omega
    obtain ⟨n, hn⟩ : ∃ n, n = xs.length := ⟨_, rfl⟩
    have hn2 : ys.length = n := by omega
    rw [← hn, hn2]
    rw [← hn] at hl
    have HN := hide hn; have HN2 := hide hn2
    clear hlen hlenI hn hn2 hm
    go_enter Tryz.func29, Tryz.ntmps29
    go_wp2
    go_loopw [5] (fun i wr => ∃ k : Nat, k ≤ n ∧ i = .int .i64 k ∧ Hid (xs.take k = ys.take k) ∧ Below w.heap.size w wr) (fun i _ => n - (intOf i).toNat)
    case atStart => exact ⟨0, Nat.zero_le _, rfl, rfl, Below.refl _ _⟩
    case round =>
      obtain ⟨k, hk, rfl, hI, hb⟩ := hrel
      by_cases hlt : k < n
      · have hkx : k < xs.length := by rw [← HN.out]; exact hlt
        have hky : k < ys.length := by rw [HN2.out]; exact hlt
        have HTx := hide (List.take_succ_eq_append_getElem hkx)
        have HTy := hide (List.take_succ_eq_append_getElem hky)
        obtain ⟨b, off, hAe, hbS, c0⟩ := at_Int HA.out hb hkx
        obtain ⟨b2, off2, hBe, hbS2, c1⟩ := at_Int HB.out hb hky
        subst hAe hBe
        have hki0 : (0 : Int) ≤ (k : Int) := by omega
        have hki : (k : Int) < (n : Int) := by omega
        generalize hx : xs[k] = x at c0 HTx
        generalize hy : ys[k] = y at c1 HTy
        by_cases hxy : x = y
        · subst hxy
          have HTk := hide (show xs.take (k + 1) = ys.take (k + 1) by rw [HTx.out, HTy.out, hI.out])
          clear hx hy hbS hbS2
          go_wp2
          go_quiet (fail)
          go_wp2
          go_roundw
          case rel => exact ⟨k + 1, by omega, by go_num, HTk.out, below_drewN hb _⟩
          case measure => simp [intOf]; omega
        · have HNe := hide (show decide (xs = ys) = false by
            rw [decide_eq_false_iff_not]
            intro h
            subst h
            exact hxy (hx.symm.trans hy))
          clear hx hy hbS hbS2
          go_wp2
          go_quiet (fail)
          go_wp2
          go_ret
          exact ⟨ret_bool HNe.out.symm, below_drewN hb _⟩
      · obtain rfl : k = n := by omega
        have HEq := hide (show decide (xs = ys) = true by
          have h := hI.out
          rw [HN.out, List.take_length, List.take_of_length_le (by have := HL.out; omega)] at h
          simpa using h)
        clear hI
        go_wp2
        go_ret
        exact ⟨ret_bool HEq.out.symm, hb⟩
  · have HNe := hide (show decide (xs = ys) = false by
      rw [decide_eq_false_iff_not]; intro h; exact hlen (by rw [h]))
    have hlenI : ¬ (xs.length : Int) = (ys.length : Int) := by omega
    clear hlen
    go_enter Tryz.func29, Tryz.ntmps29
    go_wp2
    go_ret
    exact ⟨ret_bool HNe.out.symm, Below.refl _ _⟩
set_option maxRecDepth 10000 in
set_option maxHeartbeats 1000000 in
theorem sameLists_any (xs : List (List Int)) (A B : Option Addr) (c d : Nat) (w : World) (hl : xs.length ≤ maxLen) (hn : ∀ x ∈ xs, x.length ≤ maxLen) (hA : Row (tSlice tInt) w (Old w) A xs) (hB : Row (tSlice tInt) w (Old w) B xs) :
    Calls Tryz.prog 21 #[.slice A xs.length c, .slice B xs.length d] w fun e w' => e = .returned (.bool true) ∧ Below w.heap.size w w' := by
  unfold maxLen at hl
  go_enter Tryz.func21, Tryz.ntmps21
  go_wp2
  go_loopw [5] (fun i wr => ∃ k : Nat, k ≤ xs.length ∧ i = .int .i64 k ∧ Below w.heap.size w wr) (fun i _ => xs.length - (intOf i).toNat)
  case atStart => exact ⟨0, Nat.zero_le _, rfl, Below.refl _ _⟩
  case round =>
    obtain ⟨k, hk, rfl, hb⟩ := hrel
    by_cases hlt : k < xs.length
    · have hi0 := hn xs[k] (List.getElem_mem hlt)
      obtain ⟨b, off, A3, c3, rfl, hbS, c0_, hi1, hi2, hi3⟩ := at_IntS hA hb hlt
      obtain ⟨b2, off2, A4, c4, rfl, hbS2, d0_, hj1, hj2, hj3⟩ := at_IntS hB hb hlt
      clear hA hB hn
      have HI := hide hi3; clear hi3; have HJ := hide hj3; clear hj3
      have hki : (k : Int) < (xs.length : Int) := by omega
      have HC := hide (fun n => sameInts_any xs[k] xs[k] A3 A4 c3 c4 (wr.drewN n) hi0 hi0 (HI.out.mono (w' := wr.drewN n) (S' := Old (wr.drewN n)) (fun _ h => h) (fun _ _ => rfl)) (HJ.out.mono (w' := wr.drewN n) (S' := Old (wr.drewN n)) (fun _ h => h) (fun _ _ => rfl)))
      generalize xs[k] = x at c0_ d0_ HC hi0
      rw [decide_eq_true (rfl : x = x)] at HC
      go_wp2
      go_still_tail 8, (by kernel_rfl)
      have hb2 : Below w.heap.size w wr.drew := hb.drew
      change wpList _ _ _ _ _ wr.drew
      have HC2 := hide (show Calls Tryz.prog 29 #[.slice A3 x.length c3, .slice A4 x.length c4] wr.drew fun e w' => e = .returned (.bool true) ∧ Below wr.drew.heap.size wr.drew w' from HC.out 1)
      generalize wr.drew = w2 at hb2 HC2 ⊢
      clear HC
      go_wp2_with (go_at_call 29; refine HC2.out.mono ?_; rintro e w' ⟨rfl, hb'⟩)
      go_roundw
      case rel => exact ⟨k + 1, by omega, by go_num, hb2.trans (hb'.mono hb2.size)⟩
      case measure => simp [intOf]; omega
    · clear hA hB hn
      go_wp2
      go_ret
      exact ⟨rfl, hb⟩
end Go.Proofs.YtkcobaimcfggjaaGreatDoor
