/- The law of LinearRight: the program answers as the reference does, for all arguments.  -/
import Derived.Test.YtmlbfhknapkhgaaDoorLinS
import Derived.Test.YtmlbfhknapkhgaaDoorLinI
import Derived.Test.YtmlbfhknapkhgaaDoorTabOf
import Derived.Test.YtmlbfhknapkhgaaDoorToA
import Derived.Test.YtmlbfhknapkhgaaDoorToB
import Derived.Test.YtmlbfhknapkhgaaDoorEqA
import Derived.Test.YtmlbfhknapkhgaaDoorEqB
import Derived.Test.YtmlbfhknapkhgaaDoorSz
import Derived.Test.YtmlbfhknapkhgaaDoorOpen
namespace Go.Proofs.YtmlbfhknapkhgaaDoor
open Go.RowKit

set_option maxHeartbeats 1000000 in
theorem lawLin (xs0 : List Call) (A0 : Option Addr) (c0 : Nat) (xs1 : List Int) (A1 : Option Addr) (c1 : Nat) (w : World) (hm0 : xs0.length ≤ maxLen) (hA0 : Row tCall w (Old w) A0 xs0) (hm1 : xs1.length ≤ maxLen) (hA1 : Row tInt w (Old w) A1 xs1) (hT : TabDB w) :
    Calls Tryd.prog 4 #[.slice A0 xs0.length c0, .slice A1 xs1.length c1] w fun e w' => e = .returned (.bool true) ∧ Below w.heap.size w w' := by
  have HT := hide hT; clear hT
  have HA0 := hide hA0; clear hA0
  have HA1 := hide hA1; clear hA1
  have hq0 : xs0.length ≤ 9223372036854775807 := by simpa [maxLen] using hm0
  have hq1 : xs1.length ≤ 9223372036854775807 := by simpa [maxLen] using hm1
  by_cases hl1 : xs1.length ≤ 1048576
  rotate_left
  · go_enter Tryd.func4, Tryd.ntmps4
    go_wp2_with fail
    go_ret
    exact ⟨rfl, Below.refl _ _⟩
  go_enter Tryd.func4, Tryd.ntmps4
  go_wp2_with fail
  refine (szCallS xs0.length A0 c0 1048576 w hm0 (by omega) (by omega)).mono ?_
  rintro e _ ⟨l0, rfl, hr, rfl⟩
  rcases hr with rfl | ⟨g0, k0⟩
  · go_wp2_with fail
    go_ret
    exact ⟨rfl, (Below.refl _ _)⟩
  have hl0 : xs0.length ≤ 1048576 := by omega
  have K0 := hide k0; clear k0
  go_wp2_with fail
  refine (toCallS xs0 A0 c0 w hl0 HA0.out).mono ?_
  rintro e w1 ⟨v_s0, rfl, hO, hb⟩
  obtain ⟨A_s0, c_s0, rfl, hle, hcm, hR⟩ := hO.old
  have HR := hide hR; clear hR hO
  have HL_s0 := hide hle; have HC_s0 := hide hcm; clear hle hcm
  have HB_w1 := hide ((Below.refl _ _).trans (hb.mono (Nat.le_refl _)))
  have HR_s0 := hide HR.out; clear HR hb
  go_wp2_with fail
  refine (toIntS xs1 A1 c1 w1 hl1 (HA1.out.old (HB_w1).out)).mono ?_
  rintro e w2 ⟨v_s1, rfl, hO, hb⟩
  obtain ⟨A_s1, c_s1, rfl, hle, hcm, hR⟩ := hO.old
  have HR := hide hR; clear hR hO
  have HL_s1 := hide hle; have HC_s1 := hide hcm; clear hle hcm
  have HB_w2 := hide ((HB_w1).out.trans (hb.mono (HB_w1).out.size))
  have HR_s0 := hide (HR_s0.out.old hb)
  have HR_s1 := hide HR.out; clear HR hb
  go_wp2_with fail
  refine (specLinearRight xs0 xs1 A_s0 A_s1 c_s0 c_s1 w2 hl0 hl1 HR_s0.out HR_s1.out).mono ?_
  rintro e w3 ⟨rfl, hb⟩
  have HB_w3 := hide ((HB_w2).out.trans (hb.mono (HB_w2).out.size))
  have HR_s0 := hide (HR_s0.out.old hb)
  have HR_s1 := hide (HR_s1.out.old hb)
  clear hb
  go_wp2_with fail
  refine (toCallS xs0 A0 c0 w3 hl0 (HA0.out.old (HB_w3).out)).mono ?_
  rintro e w4 ⟨v_x0, rfl, hO, hb⟩
  obtain ⟨A_x0, c_x0, rfl, hle, hcm, hR⟩ := hO.old
  have HR := hide hR; clear hR hO
  have HL_x0 := hide hle; have HC_x0 := hide hcm; clear hle hcm
  have HB_w4 := hide ((HB_w3).out.trans (hb.mono (HB_w3).out.size))
  have HR_x0 := hide HR.out; clear HR hb
  go_wp2_with fail
  refine (toIntS xs1 A1 c1 w4 hl1 (HA1.out.old (HB_w4).out)).mono ?_
  rintro e w5 ⟨v_x1, rfl, hO, hb⟩
  obtain ⟨A_x1, c_x1, rfl, hle, hcm, hR⟩ := hO.old
  have HR := hide hR; clear hR hO
  have HL_x1 := hide hle; have HC_x1 := hide hcm; clear hle hcm
  have HB_w5 := hide ((HB_w4).out.trans (hb.mono (HB_w4).out.size))
  have HR_x0 := hide (HR_x0.out.old hb)
  have HR_x1 := hide HR.out; clear HR hb
  go_wp2_with fail
  refine (implLinearRight xs0 xs1 A_x0 A_x1 c_x0 c_x1 w5 hm0 hl1 HR_x0.out HR_x1.out (HT.out.below HT.out.lt (HB_w5).out) (Nat.lt_of_lt_of_le HT.out.lt (HB_w5).out.size)).mono ?_
  rintro e w6 ⟨rfl, hb⟩
  have HB_w6 := hide ((HB_w5).out.trans (hb.mono (HB_w5).out.size))
  have HR_x0 := hide (HR_x0.out.old hb)
  have HR_x1 := hide (HR_x1.out.old hb)
  clear hb
  go_wp2_with fail
  refine (toCallS xs0 A0 c0 w6 hl0 (HA0.out.old (HB_w6).out)).mono ?_
  rintro e w7 ⟨v_y0, rfl, hO, hb⟩
  obtain ⟨A_y0, c_y0, rfl, hle, hcm, hR⟩ := hO.old
  have HR := hide hR; clear hR hO
  have HL_y0 := hide hle; have HC_y0 := hide hcm; clear hle hcm
  have HB_w7 := hide ((HB_w6).out.trans (hb.mono (HB_w6).out.size))
  have HR_x0 := hide (HR_x0.out.old hb)
  have HR_x1 := hide (HR_x1.out.old hb)
  have HR_y0 := hide HR.out; clear HR hb
  go_wp2_with fail
  refine (eqCallS xs0 A_x0 A_y0 c_x0 c_y0 w7 hm0 HR_x0.out HR_y0.out).mono ?_
  rintro e w8 ⟨rfl, hb⟩
  have HB_w8 := hide ((HB_w7).out.trans (hb.mono (HB_w7).out.size))
  have HR_x0 := hide (HR_x0.out.old hb)
  have HR_x1 := hide (HR_x1.out.old hb)
  have HR_y0 := hide (HR_y0.out.old hb)
  clear hb
  go_wp2_with fail
  refine (toIntS xs1 A1 c1 w8 hl1 (HA1.out.old (HB_w8).out)).mono ?_
  rintro e w9 ⟨v_y1, rfl, hO, hb⟩
  obtain ⟨A_y1, c_y1, rfl, hle, hcm, hR⟩ := hO.old
  have HR := hide hR; clear hR hO
  have HL_y1 := hide hle; have HC_y1 := hide hcm; clear hle hcm
  have HB_w9 := hide ((HB_w8).out.trans (hb.mono (HB_w8).out.size))
  have HR_x1 := hide (HR_x1.out.old hb)
  have HR_y1 := hide HR.out; clear HR hb
  go_wp2_with fail
  refine (eqIntS xs1 A_x1 A_y1 c_x1 c_y1 w9 hm1 HR_x1.out HR_y1.out).mono ?_
  rintro e w10 ⟨rfl, hb⟩
  have HB_w10 := hide ((HB_w9).out.trans (hb.mono (HB_w9).out.size))
  have HR_x1 := hide (HR_x1.out.old hb)
  have HR_y1 := hide (HR_y1.out.old hb)
  clear hb
  go_wp2_with fail
  go_ret
  exact ⟨rfl, (HB_w10).out⟩
end Go.Proofs.YtmlbfhknapkhgaaDoor
