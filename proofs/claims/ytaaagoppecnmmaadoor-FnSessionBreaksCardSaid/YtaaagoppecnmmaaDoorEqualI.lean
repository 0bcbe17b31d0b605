/- slices.Equal at ints. -/
import Derived.Test.YtaaagoppecnmmaaDoorProg
import Derived.Test.YtaaagoppecnmmaaDoorElems
import Derived.BigQuiet
namespace Go.Proofs.YtaaagoppecnmmaaDoor
open Go.RowKit
set_option linter.unusedVariables false
set_option linter.unusedSimpArgs false

/-- Nothing but draws. -/
def Drew (w w' : World) : Prop := ∃ n, w' = w.drewN n
theorem Drew.refl (w : World) : Drew w w := ⟨0, rfl⟩
theorem Drew.step {w w' : World} (h : Drew w w') (m : Nat) : Drew w (w'.drewN m) := by
  obtain ⟨n, rfl⟩ := h
  exact ⟨n + m, World.drewN_drewN _ _ _⟩
theorem Drew.below {w w' : World} (h : Drew w w') : Below w.heap.size w w' := by
  obtain ⟨n, rfl⟩ := h
  exact below_drewN (Below.refl _ _) n
theorem Drew.trans {a b c : World} (h : Drew a b) (k : Drew b c) : Drew a c := by
  obtain ⟨m, rfl⟩ := k
  exact h.step m

set_option maxRecDepth 10000 in
set_option maxHeartbeats 400000 in
theorem equal_Int (xs ys : List Int) (A B : Option Addr) (c d : Nat) (w : World) (hl : xs.length ≤ maxLen) (hl2 : ys.length ≤ maxLen) (hA : Row tInt w (Old w) A xs) (hB : Row tInt w (Old w) B ys) :
    Calls Tryd.prog 89 #[.slice A xs.length c, .slice B ys.length d] w fun e w' => e = .returned (.bool (decide (xs = ys))) ∧ Drew w w' := by
  unfold maxLen at hl hl2
  by_cases hn : xs.length = ys.length
  · have hq : ((xs.length : Int) != (ys.length : Int)) = false := by simp [hn]
    have HN := hide hn
    have hl3 : xs.length ≤ ys.length := by omega
    rw [← hn]
    clear hn hq hl2
    go_enter Tryd.func89, Tryd.ntmps89
    go_wp2
    go_loopw [13] (fun i wr => ∃ k : Nat, k ≤ xs.length ∧ i = .int .i64 k ∧ Hid (∀ j, j < k → xs[j]? = ys[j]?) ∧ Hid (Drew w wr)) (fun i _ => xs.length - (intOf i).toNat)
    case atStart => exact ⟨0, Nat.zero_le _, rfl, (fun j h => absurd h (by omega)), Drew.refl _⟩
    case round =>
      obtain ⟨k, hk, rfl, hI, hD⟩ := hrel
      by_cases hlt : k < xs.length
      · obtain ⟨b, off, rfl, hbS, c0⟩ := at_Int hA hD.out.below hlt
        obtain ⟨b2, off2, rfl, hbS2, d0⟩ := at_Int hB hD.out.below (show k < ys.length by omega)
        clear hA hB
        by_cases he : xs[k] = ys[k]'(by omega)
        · have hx : xs[k]? = ys[k]? := by rw [List.getElem?_eq_getElem hlt, List.getElem?_eq_getElem (by omega), he]
          have HX := hide hx
          have hne : (xs[k] != ys[k]'(by omega)) = false := by simpa using he
          clear hx he
          go_wp2
          go_quiet (fail)
          go_wp2
          go_roundw
          case rel => exact ⟨k + 1, by omega, by go_num, (fun j hj => by rcases Nat.lt_succ_iff_lt_or_eq.1 hj with h | rfl; exact hI.out j h; exact HX.out), hD.out.step _⟩
          case measure => simp [intOf]; omega
        · have HE := hide (show decide (xs = ys) = false by
            rw [decide_eq_false_iff_not]; intro h; subst h; exact he rfl)
          have hne : (xs[k] != ys[k]'(by omega)) = true := by simpa using he
          clear he
          go_wp2
          go_quiet (fail)
          go_wp2
          go_ret
          exact ⟨ret_bool HE.out.symm, hD.out.step _⟩
      · obtain rfl : k = xs.length := by omega
        have HE := hide (show decide (xs = ys) = true by
          rw [decide_eq_true_iff]
          apply List.ext_getElem?
          intro j
          rcases Nat.lt_or_ge j xs.length with h | h
          · exact hI.out j h
          · rw [List.getElem?_eq_none h, List.getElem?_eq_none (by have := HN.out; omega)])
        clear hI hA hB
        go_wp2
        go_ret
        exact ⟨ret_bool HE.out.symm, hD.out⟩
  · have hq : ((xs.length : Int) != (ys.length : Int)) = true := by simp; omega
    have HE := hide (show decide (xs = ys) = false by rw [decide_eq_false_iff_not]; intro h; exact hn (by rw [h]))
    clear hA hB
    go_enter Tryd.func89, Tryd.ntmps89
    go_wp2
    go_ret
    exact ⟨ret_bool HE.out.symm, Drew.refl _⟩

end Go.Proofs.YtaaagoppecnmmaaDoor
