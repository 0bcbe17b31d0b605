/- The sizes that the laws package counts. -/
import Derived.Test.YtcfllpgppinofaaProg
import Derived.Test.YtcfllpgppinofaaBase
import Derived.Test.YtcfllpgppinofaaElems
namespace Go.Proofs.Ytcfllpgppinofaa
open Go.RowKit

theorem szOpS (n : Nat) (A : Option Addr) (c : Nat) (left : Int) (w : World) (hn : n ≤ maxLen) (h0 : 0 ≤ left) (h1 : left ≤ 1048576) :
    Calls Try.prog 41 #[.slice A n c, .int .i64 left] w fun e w' => ∃ r, e = .returned (.int .i64 r) ∧ Sz n left r ∧ w = w' := by
  unfold maxLen at hn
  by_cases hlt : left - n < 0
  · go_enter Try.func41, Try.ntmps41
    go_wp2
    go_ret
    exact ⟨_, rfl, .inl rfl, rfl⟩
  · go_enter Try.func41, Try.ntmps41
    go_wp2
    go_ret
    exact ⟨_, rfl, .inr ⟨by omega, by omega⟩, rfl⟩
theorem szEdgeS (n : Nat) (A : Option Addr) (c : Nat) (left : Int) (w : World) (hn : n ≤ maxLen) (h0 : 0 ≤ left) (h1 : left ≤ 1048576) :
    Calls Try.prog 5 #[.slice A n c, .int .i64 left] w fun e w' => ∃ r, e = .returned (.int .i64 r) ∧ Sz n left r ∧ w = w' := by
  unfold maxLen at hn
  by_cases hlt : left - n < 0
  · go_enter Try.func5, Try.ntmps5
    go_wp2
    go_ret
    exact ⟨_, rfl, .inl rfl, rfl⟩
  · go_enter Try.func5, Try.ntmps5
    go_wp2
    go_ret
    exact ⟨_, rfl, .inr ⟨by omega, by omega⟩, rfl⟩
end Go.Proofs.Ytcfllpgppinofaa
