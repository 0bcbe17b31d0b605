/- slices.Equal at ints; which of two lists begins the other one. -/
import Derived.Test.YtcfllpgppinofaaDoorListsB
namespace Go.Proofs.YtcfllpgppinofaaDoor
open Go.RowKit
set_option linter.unusedVariables false

/-- Nothing but draws. -/
def Drew (w w' : World) : Prop := ∃ n, w' = w.drewN n
theorem Drew.refl (w : World) : Drew w w := ⟨0, rfl⟩
theorem Drew.step {w w' : World} (h : Drew w w') (m : Nat) : Drew w (w'.drewN m) := by
  obtain ⟨n, rfl⟩ := h
  exact ⟨n + m, World.drewN_drewN _ _ _⟩
theorem Drew.below {w w' : World} (h : Drew w w') : Below w.heap.size w w' := by
  obtain ⟨n, rfl⟩ := h
  exact below_drewN (Below.refl _ _) n
theorem Drew.trans {a b c : World} (h : Drew a b) (k : Drew b c) : Drew a c := by
  obtain ⟨m, rfl⟩ := k
  exact h.step m

set_option maxRecDepth 10000 in
set_option maxHeartbeats 400000 in
theorem equal_Int (xs ys : List Int) (A B : Option Addr) (c d : Nat) (w : World) (hl : xs.length ≤ maxLen) (hl2 : ys.length ≤ maxLen) (hA : Row tInt w (Old w) A xs) (hB : Row tInt w (Old w) B ys) :
    Calls Tryd.prog 105 #[.slice A xs.length c, .slice B ys.length d] w fun e w' => e = .returned (.bool (decide (xs = ys))) ∧ Drew w w' := by
  unfold maxLen at hl hl2
  by_cases hn : xs.length = ys.length
  · have hq : ((xs.length : Int) != (ys.length : Int)) = false := by simp [hn]
    have HN := hide hn
    have hl3 : xs.length ≤ ys.length := by omega
    rw [← hn]
    clear hn hq hl2
    go_enter Tryd.func105, Tryd.ntmps105
    go_wp2
    go_loopw [13] (fun i wr => ∃ k : Nat, k ≤ xs.length ∧ i = .int .i64 k ∧ Hid (∀ j, j < k → xs[j]? = ys[j]?) ∧ Hid (Drew w wr)) (fun i _ => xs.length - (intOf i).toNat)
    case atStart => exact ⟨0, Nat.zero_le _, rfl, (fun j h => absurd h (by omega)), Drew.refl _⟩
    case round =>
      obtain ⟨k, hk, rfl, hI, hD⟩ := hrel
      by_cases hlt : k < xs.length
      · obtain ⟨b, off, rfl, hbS, c0⟩ := at_Int hA hD.out.below hlt
        obtain ⟨b2, off2, rfl, hbS2, d0⟩ := at_Int hB hD.out.below (show k < ys.length by omega)
        clear hA hB
        by_cases he : xs[k] = ys[k]'(by omega)
        · have hx : xs[k]? = ys[k]? := by rw [List.getElem?_eq_getElem hlt, List.getElem?_eq_getElem (by omega), he]
          have HX := hide hx
          have hne : (xs[k] != ys[k]'(by omega)) = false := by simpa using he
          clear hx he
          go_wp2
          go_quiet (fail)
          go_wp2
          go_roundw
          case rel => exact ⟨k + 1, by omega, by go_num, (fun j hj => by rcases Nat.lt_succ_iff_lt_or_eq.1 hj with h | rfl; exact hI.out j h; exact HX.out), hD.out.step _⟩
          case measure => simp [intOf]; omega
        · have HE := hide (show decide (xs = ys) = false by
            rw [decide_eq_false_iff_not]; intro h; subst h; exact he rfl)
          have hne : (xs[k] != ys[k]'(by omega)) = true := by simpa using he
          clear he
          go_wp2
          go_quiet (fail)
          go_wp2
          go_ret
          exact ⟨ret_bool HE.out.symm, hD.out.step _⟩
      · obtain rfl : k = xs.length := by omega
        have HE := hide (show decide (xs = ys) = true by
          rw [decide_eq_true_iff]
          apply List.ext_getElem?
          intro j
          rcases Nat.lt_or_ge j xs.length with h | h
          · exact hI.out j h
          · rw [List.getElem?_eq_none h, List.getElem?_eq_none (by have := HN.out; omega)])
        clear hI hA hB
        go_wp2
        go_ret
        exact ⟨ret_bool HE.out.symm, hD.out⟩
  · have hq : ((xs.length : Int) != (ys.length : Int)) = true := by simp; omega
    have HE := hide (show decide (xs = ys) = false by rw [decide_eq_false_iff_not]; intro h; exact hn (by rw [h]))
    clear hA hB
    go_enter Tryd.func105, Tryd.ntmps105
    go_wp2
    go_ret
    exact ⟨ret_bool HE.out.symm, Drew.refl _⟩

/-- The first list is the beginning of the second one. -/
def pre (a b : List Int) : Bool := decide (a = b.take a.length)
theorem pre_true {a b : List Int} (h : ∀ j, j < a.length → a[j]? = b[j]?) : pre a b = true := by
  unfold pre
  rw [decide_eq_true_iff]
  apply List.ext_getElem?
  intro j
  rw [List.getElem?_take]
  split
  · rename_i hj; exact h j hj
  · rename_i hj; exact List.getElem?_eq_none (by omega)
theorem pre_false {a b : List Int} {k : Nat} (hk : k < a.length) (h : a[k]? ≠ b[k]?) : pre a b = false := by
  unfold pre
  rw [decide_eq_false_iff_not]
  intro e
  apply h
  have : a[k]? = (b.take a.length)[k]? := congrArg (fun l => l[k]?) e
  rw [this, List.getElem?_take, if_pos hk]
def agree (a b : List Int) : Bool := pre a b || pre b a
theorem agree_take (a b : List Int) : decide (a.take (min a.length b.length) = b.take (min a.length b.length)) = agree a b := by
  unfold agree pre
  rw [Bool.eq_iff_iff]
  simp only [decide_eq_true_iff, Bool.or_eq_true]
  constructor
  · intro h
    rcases Nat.le_total a.length b.length with hl | hl
    · left; rw [Nat.min_eq_left hl, List.take_length] at h; exact h
    · right; rw [Nat.min_eq_right hl, List.take_length] at h; exact h.symm
  · rintro (h | h)
    · have hl : a.length ≤ b.length := by
        have := congrArg List.length h
        rw [List.length_take] at this; omega
      rw [Nat.min_eq_left hl, List.take_length]; exact h
    · have hl : b.length ≤ a.length := by
        have := congrArg List.length h
        rw [List.length_take] at this; omega
      rw [Nat.min_eq_right hl, List.take_length]; exact h.symm

set_option maxRecDepth 10000 in
set_option maxHeartbeats 400000 in
theorem l21Begins (xs ys : List Int) (A B : Option Addr) (c d : Nat) (w : World) (hl : xs.length ≤ maxLen) (hl2 : ys.length ≤ maxLen) (hA : Row tInt w (Old w) A xs) (hB : Row tInt w (Old w) B ys) :
    Calls Tryd.prog 82 #[.slice A xs.length c, .slice B ys.length d] w fun e w' => e = .returned (.bool (pre xs ys)) ∧ Drew w w' := by
  unfold maxLen at hl hl2
  go_enter Tryd.func82, Tryd.ntmps82
  go_wp2
  go_loopw [5] (fun i wr => ∃ k : Nat, k ≤ xs.length ∧ i = .int .i64 k ∧ Hid (∀ j, j < k → xs[j]? = ys[j]?) ∧ Hid (Drew w wr)) (fun i _ => xs.length - (intOf i).toNat)
  case atStart => exact ⟨0, Nat.zero_le _, rfl, (fun j h => absurd h (by omega)), Drew.refl _⟩
  case round =>
    obtain ⟨k, hk, rfl, hI, hD⟩ := hrel
    by_cases hlt : k < xs.length
    · obtain ⟨b, off, rfl, hbS, c0⟩ := at_Int hA hD.out.below hlt
      by_cases hlt2 : k < ys.length
      · have hd : decide (ys.length ≤ k) = false := by simpa using hlt2
        obtain ⟨b2, off2, rfl, hbS2, d0⟩ := at_Int hB hD.out.below hlt2
        clear hA hB
        by_cases he : xs[k] = ys[k]
        · have hx : xs[k]? = ys[k]? := by rw [List.getElem?_eq_getElem hlt, List.getElem?_eq_getElem hlt2, he]
          have HX := hide hx
          have hne : (xs[k] != ys[k]) = false := by simpa using he
          clear hx he
          go_wp2
          go_quiet (fail)
          go_wp2
          go_roundw
          case rel => exact ⟨k + 1, by omega, by go_num, (fun j hj => by rcases Nat.lt_succ_iff_lt_or_eq.1 hj with h | rfl; exact hI.out j h; exact HX.out), hD.out.step _⟩
          case measure => simp [intOf]; omega
        · have HE := hide (pre_false hlt (show xs[k]? ≠ ys[k]? by rw [List.getElem?_eq_getElem hlt, List.getElem?_eq_getElem hlt2]; simpa using he))
          have hne : (xs[k] != ys[k]) = true := by simpa using he
          clear he
          go_wp2
          go_quiet (fail)
          go_wp2
          go_ret
          exact ⟨ret_bool HE.out.symm, hD.out.step _⟩
      · have hd : decide (ys.length ≤ k) = true := by simpa using hlt2
        have HE := hide (pre_false hlt (show xs[k]? ≠ ys[k]? by rw [List.getElem?_eq_getElem hlt, List.getElem?_eq_none (by omega)]; simp))
        clear hA hB
        go_wp2
        go_quiet (fail)
        go_wp2
        go_ret
        exact ⟨ret_bool HE.out.symm, hD.out.step _⟩
    · obtain rfl : k = xs.length := by omega
      have HE := hide (pre_true hI.out)
      clear hI hA hB
      go_wp2
      go_ret
      exact ⟨ret_bool HE.out.symm, hD.out⟩

set_option maxRecDepth 10000 in
set_option maxHeartbeats 400000 in
theorem begins (xs ys : List Int) (A B : Option Addr) (c d : Nat) (w : World) (hl : xs.length ≤ c) (hl2 : ys.length ≤ d) (hc : c ≤ maxLen) (hd : d ≤ maxLen) (hA : Row tInt w (Old w) A xs) (hB : Row tInt w (Old w) B ys) :
    Calls Tryd.prog 81 #[.slice A xs.length c, .slice B ys.length d] w fun e w' => e = .returned (.bool (agree xs ys)) ∧ Drew w w' := by
  have HV := hide (agree_take xs ys)
  have hEq : ∀ n, Calls Tryd.prog 105 #[.slice A (min xs.length ys.length) c, .slice B (min xs.length ys.length) d] (w.drewN n) fun e w' => e = .returned (.bool (agree xs ys)) ∧ ∃ m, w' = (w.drewN n).drewN m := fun n => by
    have h := equal_Int (xs.take (min xs.length ys.length)) (ys.take (min xs.length ys.length)) A B c d (w.drewN n) (by rw [List.length_take]; omega) (by rw [List.length_take]; omega) (Row.take (w := w.drewN n) hA _) (Row.take (w := w.drewN n) hB _)
    rw [List.length_take, List.length_take, Nat.min_eq_left (Nat.min_le_left _ _), Nat.min_eq_left (Nat.min_le_right _ _), HV.out] at h
    exact h
  have HEq := hide hEq
  clear hEq hA hB
  unfold maxLen at hc hd
  by_cases hab : xs.length ≤ ys.length
  · have hmin : min xs.length ys.length = xs.length := Nat.min_eq_left hab
    rw [hmin] at HEq
    have h1 : ¬ (ys.length : Int) < (xs.length : Int) := by omega
    have hb1 : (0 : Int) ≤ (xs.length : Int) := by omega
    have hb2 : (xs.length : Int) ≤ (c : Int) := by omega
    have hb3 : (xs.length : Int) ≤ (d : Int) := by omega
    clear hmin
    go_enter Tryd.func81, Tryd.ntmps81
    go_wp2
    go_quiet ((go_at_call 105; exact Calls.quiet_of (HEq.out _)))
    go_wp2
    go_ret
    exact ⟨rfl, (Drew.refl _).step _⟩
  · have hmin : min xs.length ys.length = ys.length := Nat.min_eq_right (by omega)
    rw [hmin] at HEq
    have h1 : (ys.length : Int) < (xs.length : Int) := by omega
    have hb1 : (0 : Int) ≤ (ys.length : Int) := by omega
    have hb2 : (ys.length : Int) ≤ (c : Int) := by omega
    have hb3 : (ys.length : Int) ≤ (d : Int) := by omega
    clear hmin
    go_enter Tryd.func81, Tryd.ntmps81
    go_wp2
    go_quiet ((go_at_call 105; exact Calls.quiet_of (HEq.out _)))
    go_wp2
    go_ret
    exact ⟨rfl, (Drew.refl _).step _⟩
end Go.Proofs.YtcfllpgppinofaaDoor
