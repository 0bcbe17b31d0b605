/- sameInts: two lists of numbers are compared. -/
import Derived.Test.YtnlicjgegclilaaDoorProg
import Derived.BigQuiet
import Derived.Test.YtnlicjgegclilaaDoorElems
namespace Go.Proofs.YtnlicjgegclilaaDoor
open Go.RowKit
set_option linter.unusedVariables false

set_option maxRecDepth 10000 in
set_option maxHeartbeats 2000000 in
theorem sameInts_any (xs ys : List Int) (A B : Option Addr) (c d : Nat) (w : World) (hl : xs.length ≤ maxLen) (hm : ys.length ≤ maxLen) (hA : Row tInt w (Old w) A xs) (hB : Row tInt w (Old w) B ys) :
    Calls Tryd.prog 11 #[.slice A xs.length c, .slice B ys.length d] w fun e w' => e = .returned (.bool (decide (xs = ys))) ∧ Below w.heap.size w w' := by
  unfold maxLen at hl hm
  have HA := hide hA; have HB := hide hB
  clear hA hB
  by_cases hlen : xs.length = ys.length
  · have HL := hide hlen
    have hlenI : (xs.length : Int) = (ys.length : Int) := by omega
    obtain ⟨n, hn⟩ : ∃ n, n = xs.length := ⟨_, rfl⟩
    have hn2 : ys.length = n := by omega
    rw [← hn, hn2]
    rw [← hn] at hl
    have HN := hide hn; have HN2 := hide hn2
    clear hlen hlenI hn hn2 hm
    go_enter Tryd.func11, Tryd.ntmps11
    go_wp2
    go_loopw [5] (fun i wr => ∃ k : Nat, k ≤ n ∧ i = .int .i64 k ∧ Hid (xs.take k = ys.take k) ∧ Below w.heap.size w wr) (fun i _ => n - (intOf i).toNat)
    case atStart => exact ⟨0, Nat.zero_le _, rfl, rfl, Below.refl _ _⟩
    case round =>
      obtain ⟨k, hk, rfl, hI, hb⟩ := hrel
      by_cases hlt : k < n
      · have hkx : k < xs.length := by rw [← HN.out]; exact hlt
        have hky : k < ys.length := by rw [HN2.out]; exact hlt
        have HTx := hide (List.take_succ_eq_append_getElem hkx)
        have HTy := hide (List.take_succ_eq_append_getElem hky)
        obtain ⟨b, off, hAe, hbS, c0⟩ := at_Int HA.out hb hkx
        obtain ⟨b2, off2, hBe, hbS2, c1⟩ := at_Int HB.out hb hky
        subst hAe hBe
        have hki0 : (0 : Int) ≤ (k : Int) := by omega
        have hki : (k : Int) < (n : Int) := by omega
        generalize hx : xs[k] = x at c0 HTx
        generalize hy : ys[k] = y at c1 HTy
        by_cases hxy : x = y
        · subst hxy
          have HTk := hide (show xs.take (k + 1) = ys.take (k + 1) by rw [HTx.out, HTy.out, hI.out])
          clear hx hy hbS hbS2
          go_wp2
          go_quiet (fail)
          go_wp2
          go_roundw
          case rel => exact ⟨k + 1, by omega, by go_num, HTk.out, below_drewN hb _⟩
          case measure => simp [intOf]; omega
        · have HNe := hide (show decide (xs = ys) = false by
            rw [decide_eq_false_iff_not]
            intro h
            subst h
            exact hxy (hx.symm.trans hy))
          clear hx hy hbS hbS2
          go_wp2
          go_quiet (fail)
          go_wp2
          go_ret
          exact ⟨ret_bool HNe.out.symm, below_drewN hb _⟩
      · obtain rfl : k = n := by omega
        have HEq := hide (show decide (xs = ys) = true by
          have h := hI.out
          rw [HN.out, List.take_length, List.take_of_length_le (by have := HL.out; omega)] at h
          simpa using h)
        clear hI
        go_wp2
        go_ret
        exact ⟨ret_bool HEq.out.symm, hb⟩
  · have HNe := hide (show decide (xs = ys) = false by
      rw [decide_eq_false_iff_not]; intro h; exact hlen (by rw [h]))
    have hlenI : ¬ (xs.length : Int) = (ys.length : Int) := by omega
    clear hlen
    go_enter Tryd.func11, Tryd.ntmps11
    go_wp2
    go_ret
    exact ⟨ret_bool HNe.out.symm, Below.refl _ _⟩
end Go.Proofs.YtnlicjgegclilaaDoor
