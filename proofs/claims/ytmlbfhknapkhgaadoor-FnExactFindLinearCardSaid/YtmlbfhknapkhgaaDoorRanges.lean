/- Ranges of numbers: what the small functions of the program and of the reference answer. -/
import Derived.Test.YtmlbfhknapkhgaaDoorProg
import Derived.Test.YtmlbfhknapkhgaaDoorBase
namespace Go.Proofs.YtmlbfhknapkhgaaDoor
open Go.RowKit

theorem l1In (n lo hi : Int) (w : World) : Calls Tryd.prog 57 #[.int .i64 n, .int .i64 lo, .int .i64 hi] w fun e w' => e = .returned (.bool (inR n lo hi)) ∧ w = w' := by
  go_enter Tryd.func57, Tryd.ntmps57
  go_wp2
  all_goals (go_ret; refine ⟨ret_bool ?_, rfl⟩; simp [inR]; try omega)
theorem within (n lo hi : Int) (w : World) : Calls Tryd.prog 50 #[.int .i64 n, .int .i64 lo, .int .i64 hi] w fun e w' => e = .returned (.bool (inR n lo hi)) ∧ w = w' := by
  go_enter Tryd.func50, Tryd.ntmps50
  go_wp2
  all_goals (go_ret; refine ⟨ret_bool ?_, rfl⟩; simp [inR]; try omega)
theorem timeOk (n : Int) (w : World) : Calls Tryd.prog 86 #[.int .i64 n] w fun e w' => e = .returned (.bool (inR n 0 1000)) ∧ w = w' := by
  go_enter Tryd.func86, Tryd.ntmps86
  go_wp2_with (go_at_call 50; refine (within _ _ _ _).mono ?_; rintro e w' ⟨rfl, rfl⟩)
  go_ret
  exact ⟨rfl, rfl⟩
theorem valueOk (n : Int) (w : World) : Calls Tryd.prog 96 #[.int .i64 n] w fun e w' => e = .returned (.bool (inR n 0 99)) ∧ w = w' := by
  go_enter Tryd.func96, Tryd.ntmps96
  go_wp2_with (go_at_call 50; refine (within _ _ _ _).mono ?_; rintro e w' ⟨rfl, rfl⟩)
  go_ret
  exact ⟨rfl, rfl⟩
theorem keyOk (n : Int) (w : World) : Calls Tryd.prog 99 #[.int .i64 n] w fun e w' => e = .returned (.bool (inR n 0 2)) ∧ w = w' := by
  go_enter Tryd.func99, Tryd.ntmps99
  go_wp2_with (go_at_call 50; refine (within _ _ _ _).mono ?_; rintro e w' ⟨rfl, rfl⟩)
  go_ret
  exact ⟨rfl, rfl⟩
theorem sessionOk (n : Int) (w : World) : Calls Tryd.prog 80 #[.int .i64 n] w fun e w' => e = .returned (.bool (inR n 0 3)) ∧ w = w' := by
  go_enter Tryd.func80, Tryd.ntmps80
  go_wp2_with (go_at_call 50; refine (within _ _ _ _).mono ?_; rintro e w' ⟨rfl, rfl⟩)
  go_ret
  exact ⟨rfl, rfl⟩
end Go.Proofs.YtmlbfhknapkhgaaDoor
