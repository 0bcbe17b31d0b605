/- The sizes that the laws package counts: transactions. -/
import Derived.Test.YtmlbfhknapkhgaaDoorProg
import Derived.Test.YtmlbfhknapkhgaaDoorBase
import Derived.Test.YtmlbfhknapkhgaaDoorElems
import Derived.Test.YtmlbfhknapkhgaaDoorSz
namespace Go.Proofs.YtmlbfhknapkhgaaDoor
open Go.RowKit

theorem szTxn (x : Txn) (A2 : Option Addr) (c2 : Nat) (left : Int) (w : World) (hn : x.Ops.length ≤ maxLen) (h0 : 0 ≤ left) (h1 : left ≤ 1048576) :
    Calls Tryd.prog 28 #[.agg #[.int .i64 x.Session, .slice A2 x.Ops.length c2, .bool x.Done], .int .i64 left] w fun e w' => ∃ r, e = .returned (.int .i64 r) ∧ Sz x.Ops.length left r ∧ Below w.heap.size w w' := by
  go_enter Tryd.func28, Tryd.ntmps28
  go_wp2_with (go_at_call 54; refine (szOpS _ _ _ _ _ hn h0 h1).mono ?_; rintro e w' ⟨r, rfl, hr, rfl⟩; rcases hr with rfl | ⟨hr1, hr2⟩)
  · go_ret
    exact ⟨_, rfl, .inl rfl, (Below.refl _ _).alloc (Nat.le_refl _) _⟩
  · go_ret
    exact ⟨_, rfl, .inr ⟨hr1, hr2⟩, (Below.refl _ _).alloc (Nat.le_refl _) _⟩
set_option maxHeartbeats 400000 in
theorem szTxnS (xs : List Txn) (A : Option Addr) (c : Nat) (left : Int) (w : World) (hl : xs.length ≤ maxLen) (hn : ∀ x ∈ xs, x.Ops.length ≤ maxLen) (h0 : 0 ≤ left) (h1 : left ≤ 1048576) (hA : Row tTxn w (Old w) A xs) :
    Calls Tryd.prog 6 #[.slice A xs.length c, .int .i64 left] w fun e w' => ∃ r, e = .returned (.int .i64 r) ∧ Sz (xs.length + tot (fun x => x.Ops.length) xs) left r ∧ Below w.heap.size w w' := by
  unfold maxLen at hl
  by_cases hlt0 : left - xs.length < 0
  · clear hA hn
    go_enter Tryd.func6, Tryd.ntmps6
    go_wp2
    go_ret
    exact ⟨_, rfl, .inl rfl, Below.refl _ _⟩
  · go_enter Tryd.func6, Tryd.ntmps6
    go_wp2
    go_loopw [1, 5] (fun l i wr => ∃ (k : Nat) (r : Int), k ≤ xs.length ∧ i = .int .i64 k ∧ l = .int .i64 r ∧ 0 ≤ r ∧ r ≤ 1048576 ∧ Hid (r + (xs.length + tot (fun x => x.Ops.length) (xs.take k) : Nat) = left) ∧ Below w.heap.size w wr) (fun _ i _ => xs.length - (intOf i).toNat)
    case atStart => exact ⟨0, _, Nat.zero_le _, rfl, rfl, by omega, by omega, (by simp [Hid, tot]; try omega), Below.refl _ _⟩
    case round =>
      obtain ⟨k, l, hk, rfl, rfl, hl0, hl1, hsum, hb⟩ := hrel
      by_cases hlt : k < xs.length
      · obtain ⟨b, off, A3, c3, rfl, hbS, c0_, c1_, c2_, hi1, hi2, hi3⟩ := at_Txn hA hb hlt
        have hlen := hn xs[k] (List.getElem_mem hlt)
        have hT := hide (tot_take (fun x => x.Ops.length) xs k hlt)
        clear hA hn hi3
        go_wp2_with (go_at_call 28; refine (szTxn xs[k] A3 c3 l _ hlen hl0 hl1).mono ?_; rintro e w' ⟨r, rfl, hr, hb'⟩; rcases hr with rfl | ⟨hr1, hr2⟩)
        · go_ret
          exact ⟨_, rfl, .inl rfl, (hb.trans (hb'.mono hb.size))⟩
        · go_roundw
          case rel => exact ⟨k + 1, r, by omega, by go_num, rfl, by omega, by omega, (by have h1 := hT.out; have h2 := hsum.out; simp only [Hid]; rw [h1]; omega), (hb.trans (hb'.mono hb.size))⟩
          case measure => simp [intOf]; omega
      · obtain rfl : k = xs.length := by omega
        clear hA hn
        go_wp2
        go_ret
        exact ⟨_, rfl, .inr ⟨hl0, by have h2 := hsum.out; rw [List.take_length] at h2; omega⟩, hb⟩
end Go.Proofs.YtmlbfhknapkhgaaDoor
