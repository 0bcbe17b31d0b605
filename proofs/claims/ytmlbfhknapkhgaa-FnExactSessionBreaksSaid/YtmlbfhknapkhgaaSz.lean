/- The sizes that the laws package counts. -/
import Derived.Test.YtmlbfhknapkhgaaProg
import Derived.Test.YtmlbfhknapkhgaaBase
import Derived.Test.YtmlbfhknapkhgaaElems
namespace Go.Proofs.Ytmlbfhknapkhgaa
open Go.RowKit

theorem szIntS (n : Nat) (A : Option Addr) (c : Nat) (left : Int) (w : World) (hn : n ≤ maxLen) (h0 : 0 ≤ left) (h1 : left ≤ 1048576) :
    Calls Try.prog 89 #[.slice A n c, .int .i64 left] w fun e w' => ∃ r, e = .returned (.int .i64 r) ∧ Sz n left r ∧ w = w' := by
  unfold maxLen at hn
  by_cases hlt : left - n < 0
  · go_enter Try.func89, Try.ntmps89
    go_wp2
    go_ret
    exact ⟨_, rfl, .inl rfl, rfl⟩
  · go_enter Try.func89, Try.ntmps89
    go_wp2
    go_ret
    exact ⟨_, rfl, .inr ⟨by omega, by omega⟩, rfl⟩
theorem szSpanS (n : Nat) (A : Option Addr) (c : Nat) (left : Int) (w : World) (hn : n ≤ maxLen) (h0 : 0 ≤ left) (h1 : left ≤ 1048576) :
    Calls Try.prog 36 #[.slice A n c, .int .i64 left] w fun e w' => ∃ r, e = .returned (.int .i64 r) ∧ Sz n left r ∧ w = w' := by
  unfold maxLen at hn
  by_cases hlt : left - n < 0
  · go_enter Try.func36, Try.ntmps36
    go_wp2
    go_ret
    exact ⟨_, rfl, .inl rfl, rfl⟩
  · go_enter Try.func36, Try.ntmps36
    go_wp2
    go_ret
    exact ⟨_, rfl, .inr ⟨by omega, by omega⟩, rfl⟩
theorem szOpS (n : Nat) (A : Option Addr) (c : Nat) (left : Int) (w : World) (hn : n ≤ maxLen) (h0 : 0 ≤ left) (h1 : left ≤ 1048576) :
    Calls Try.prog 102 #[.slice A n c, .int .i64 left] w fun e w' => ∃ r, e = .returned (.int .i64 r) ∧ Sz n left r ∧ w = w' := by
  unfold maxLen at hn
  by_cases hlt : left - n < 0
  · go_enter Try.func102, Try.ntmps102
    go_wp2
    go_ret
    exact ⟨_, rfl, .inl rfl, rfl⟩
  · go_enter Try.func102, Try.ntmps102
    go_wp2
    go_ret
    exact ⟨_, rfl, .inr ⟨by omega, by omega⟩, rfl⟩
set_option maxHeartbeats 400000 in
theorem szIntSS (xs : List (List Int)) (A : Option Addr) (c : Nat) (left : Int) (w : World) (hl : xs.length ≤ maxLen) (hn : ∀ x ∈ xs, x.length ≤ maxLen) (h0 : 0 ≤ left) (h1 : left ≤ 1048576) (hA : Row (tSlice tInt) w (Old w) A xs) :
    Calls Try.prog 41 #[.slice A xs.length c, .int .i64 left] w fun e w' => ∃ r, e = .returned (.int .i64 r) ∧ Sz (xs.length + tot (List.length) xs) left r ∧ Below w.heap.size w w' := by
  unfold maxLen at hl
  by_cases hlt0 : left - xs.length < 0
  · clear hA hn
    go_enter Try.func41, Try.ntmps41
    go_wp2
    go_ret
    exact ⟨_, rfl, .inl rfl, Below.refl _ _⟩
  · go_enter Try.func41, Try.ntmps41
    go_wp2
    go_loopw [1, 5] (fun l i wr => ∃ (k : Nat) (r : Int), k ≤ xs.length ∧ i = .int .i64 k ∧ l = .int .i64 r ∧ 0 ≤ r ∧ r ≤ 1048576 ∧ Hid (r + (xs.length + tot (List.length) (xs.take k) : Nat) = left) ∧ Below w.heap.size w wr) (fun _ i _ => xs.length - (intOf i).toNat)
    case atStart => exact ⟨0, _, Nat.zero_le _, rfl, rfl, by omega, by omega, (by simp [Hid, tot]; try omega), Below.refl _ _⟩
    case round =>
      obtain ⟨k, l, hk, rfl, rfl, hl0, hl1, hsum, hb⟩ := hrel
      by_cases hlt : k < xs.length
      · obtain ⟨b, off, A3, c3, rfl, hbS, c0_, hi1, hi2, hi3⟩ := at_IntS hA hb hlt
        have hlen := hn xs[k] (List.getElem_mem hlt)
        have hT := hide (tot_take (List.length) xs k hlt)
        clear hA hn hi3
        go_wp2_with (go_at_call 89; refine (szIntS xs[k].length A3 c3 l _ hlen hl0 hl1).mono ?_; rintro e w' ⟨r, rfl, hr, rfl⟩; rcases hr with rfl | ⟨hr1, hr2⟩)
        · go_ret
          exact ⟨_, rfl, .inl rfl, hb⟩
        · go_roundw
          case rel => exact ⟨k + 1, r, by omega, by go_num, rfl, by omega, by omega, (by have h1 := hT.out; have h2 := hsum.out; simp only [Hid]; rw [h1]; omega), hb⟩
          case measure => simp [intOf]; omega
      · obtain rfl : k = xs.length := by omega
        clear hA hn
        go_wp2
        go_ret
        exact ⟨_, rfl, .inr ⟨hl0, by have h2 := hsum.out; rw [List.take_length] at h2; omega⟩, hb⟩
end Go.Proofs.Ytmlbfhknapkhgaa
