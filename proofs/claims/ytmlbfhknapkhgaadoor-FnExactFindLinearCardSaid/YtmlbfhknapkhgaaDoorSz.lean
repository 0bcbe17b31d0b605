/- The sizes that the laws package counts. -/
import Derived.Test.YtmlbfhknapkhgaaDoorProg
import Derived.Test.YtmlbfhknapkhgaaDoorBase
import Derived.Test.YtmlbfhknapkhgaaDoorElems
namespace Go.Proofs.YtmlbfhknapkhgaaDoor
open Go.RowKit

theorem szSpanS (n : Nat) (A : Option Addr) (c : Nat) (left : Int) (w : World) (hn : n ≤ maxLen) (h0 : 0 ≤ left) (h1 : left ≤ 1048576) :
    Calls Tryd.prog 7 #[.slice A n c, .int .i64 left] w fun e w' => ∃ r, e = .returned (.int .i64 r) ∧ Sz n left r ∧ w = w' := by
  unfold maxLen at hn
  by_cases hlt : left - n < 0
  · go_enter Tryd.func7, Tryd.ntmps7
    go_wp2
    go_ret
    exact ⟨_, rfl, .inl rfl, rfl⟩
  · go_enter Tryd.func7, Tryd.ntmps7
    go_wp2
    go_ret
    exact ⟨_, rfl, .inr ⟨by omega, by omega⟩, rfl⟩
theorem szOpS (n : Nat) (A : Option Addr) (c : Nat) (left : Int) (w : World) (hn : n ≤ maxLen) (h0 : 0 ≤ left) (h1 : left ≤ 1048576) :
    Calls Tryd.prog 54 #[.slice A n c, .int .i64 left] w fun e w' => ∃ r, e = .returned (.int .i64 r) ∧ Sz n left r ∧ w = w' := by
  unfold maxLen at hn
  by_cases hlt : left - n < 0
  · go_enter Tryd.func54, Tryd.ntmps54
    go_wp2
    go_ret
    exact ⟨_, rfl, .inl rfl, rfl⟩
  · go_enter Tryd.func54, Tryd.ntmps54
    go_wp2
    go_ret
    exact ⟨_, rfl, .inr ⟨by omega, by omega⟩, rfl⟩
theorem szCallS (n : Nat) (A : Option Addr) (c : Nat) (left : Int) (w : World) (hn : n ≤ maxLen) (h0 : 0 ≤ left) (h1 : left ≤ 1048576) :
    Calls Tryd.prog 19 #[.slice A n c, .int .i64 left] w fun e w' => ∃ r, e = .returned (.int .i64 r) ∧ Sz n left r ∧ w = w' := by
  unfold maxLen at hn
  by_cases hlt : left - n < 0
  · go_enter Tryd.func19, Tryd.ntmps19
    go_wp2
    go_ret
    exact ⟨_, rfl, .inl rfl, rfl⟩
  · go_enter Tryd.func19, Tryd.ntmps19
    go_wp2
    go_ret
    exact ⟨_, rfl, .inr ⟨by omega, by omega⟩, rfl⟩
end Go.Proofs.YtmlbfhknapkhgaaDoor
