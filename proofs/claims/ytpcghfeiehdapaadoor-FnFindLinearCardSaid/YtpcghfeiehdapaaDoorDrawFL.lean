/- DrawFindLinear: some calls. -/
import Derived.Test.YtpcghfeiehdapaaDoorCallsD
namespace Go.Proofs.YtpcghfeiehdapaaDoor
open Go.RowKit
set_option linter.unusedVariables false
set_option linter.unusedSimpArgs false

set_option maxHeartbeats 400000 in
theorem drawFindLinear (bs : List Int) (A : Option Addr) (c : Nat) (w : World) (hl : bs.length ≤ 1048576) (hc : bs.length ≤ c) (hcm : c ≤ maxLen) (hA : Row tByte w (Old w) A bs) :
    Calls Tryd.prog 10 #[.slice A bs.length c] w (DrawnL tCall 37 20 w) := by
  have HC := hide (open_any bs A c w hl hc hcm hA)
  clear hA
  go_enter Tryd.func10, Tryd.ntmps10
  go_wp2_with fail
  refine HC.out.mono ?_
  rintro e w1 ⟨R, rfl, hR0, hr1, hb1⟩
  have HB1 := hide hb1
  have HR1 := hide hr1
  clear hb1 hr1
  go_wp2_with fail
  refine (calls_any _ R 0 9 HR1.out (by omega) (by omega)).mono ?_
  rintro e w4 ⟨xs, v, rfl, hx, ho, hr4, hg4⟩
  have HB4 := hide (below_gr HB1.out hg4 HB1.out.size hR0)
  have HO := hide ho
  have HB3s := hide HB1.out.size
  clear ho hr4 hg4
  go_wp2_with fail
  go_ret
  exact ⟨xs, v, rfl, hx, HO.out.mono (fun b h => ⟨Nat.le_trans HB3s.out h.1, h.2⟩) (fun _ _ => rfl), HB4.out⟩
end Go.Proofs.YtpcghfeiehdapaaDoor
