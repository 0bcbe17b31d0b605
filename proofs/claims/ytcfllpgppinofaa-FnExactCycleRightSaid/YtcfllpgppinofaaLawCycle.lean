/- The law of CycleRight: the program answers as the reference does, for all arguments.  -/
import Derived.Test.YtcfllpgppinofaaCycImpl
import Derived.Test.YtcfllpgppinofaaToA
import Derived.Test.YtcfllpgppinofaaEqA
import Derived.Test.YtcfllpgppinofaaSz
import Derived.Test.YtcfllpgppinofaaOpen
namespace Go.Proofs.Ytcfllpgppinofaa
open Go.RowKit

set_option maxHeartbeats 1000000 in
theorem lawCycleRight (a0 : Int) (xs1 : List Edge) (A1 : Option Addr) (c1 : Nat) (xs2 : List Int) (A2 : Option Addr) (c2 : Nat) (w : World) (hm1 : xs1.length ≤ maxLen) (hA1 : Row tEdge w (Old w) A1 xs1) (hm2 : xs2.length ≤ maxLen) (hA2 : Row tInt w (Old w) A2 xs2) :
    Calls Try.prog 3 #[.int .i64 a0, .slice A1 xs1.length c1, .slice A2 xs2.length c2] w fun e w' => e = .returned (.bool true) ∧ Below w.heap.size w w' := by
  have HA1 := hide hA1; clear hA1
  have HA2 := hide hA2; clear hA2
  have hq1 : xs1.length ≤ 9223372036854775807 := by simpa [maxLen] using hm1
  have hq2 : xs2.length ≤ 9223372036854775807 := by simpa [maxLen] using hm2
  by_cases hl2 : xs2.length ≤ 1048576
  rotate_left
  · go_enter Try.func3, Try.ntmps3
    go_wp2_with fail
    go_ret
    exact ⟨rfl, Below.refl _ _⟩
  go_enter Try.func3, Try.ntmps3
  go_wp2_with fail
  refine (szEdgeS xs1.length A1 c1 1048576 w hm1 (by omega) (by omega)).mono ?_
  rintro e _ ⟨l1, rfl, hr, rfl⟩
  rcases hr with rfl | ⟨g1, k1⟩
  · go_wp2_with fail
    go_ret
    exact ⟨rfl, (Below.refl _ _)⟩
  have hl1 : xs1.length ≤ 1048576 := by omega
  have K1 := hide k1; clear k1
  go_wp2_with fail
  refine (toEdgeS xs1 A1 c1 w hl1 HA1.out).mono ?_
  rintro e w1 ⟨v_s1, rfl, hO, hb⟩
  obtain ⟨A_s1, c_s1, rfl, hle, hcm, hR⟩ := hO.old
  have HR := hide hR; clear hR hO
  have HL_s1 := hide hle; have HC_s1 := hide hcm; clear hle hcm
  have HB_w1 := hide ((Below.refl _ _).trans (hb.mono (Nat.le_refl _)))
  have HR_s1 := hide HR.out; clear HR hb
  go_wp2_with fail
  refine (toIntS xs2 A2 c2 w1 hl2 (HA2.out.old (HB_w1).out)).mono ?_
  rintro e w2 ⟨v_s2, rfl, hO, hb⟩
  obtain ⟨A_s2, c_s2, rfl, hle, hcm, hR⟩ := hO.old
  have HR := hide hR; clear hR hO
  have HL_s2 := hide hle; have HC_s2 := hide hcm; clear hle hcm
  have HB_w2 := hide ((HB_w1).out.trans (hb.mono (HB_w1).out.size))
  have HR_s1 := hide (HR_s1.out.old hb)
  have HR_s2 := hide HR.out; clear HR hb
  go_wp2_with fail
  refine (specCycleRight a0 xs1 xs2 A_s1 A_s2 c_s1 c_s2 w2 hm1 hm2 HR_s1.out HR_s2.out).mono ?_
  rintro e w3 ⟨rfl, hb⟩
  have HB_w3 := hide ((HB_w2).out.trans (hb.mono (HB_w2).out.size))
  have HR_s1 := hide (HR_s1.out.old hb)
  have HR_s2 := hide (HR_s2.out.old hb)
  clear hb
  go_wp2_with fail
  refine (toEdgeS xs1 A1 c1 w3 hl1 (HA1.out.old (HB_w3).out)).mono ?_
  rintro e w4 ⟨v_x1, rfl, hO, hb⟩
  obtain ⟨A_x1, c_x1, rfl, hle, hcm, hR⟩ := hO.old
  have HR := hide hR; clear hR hO
  have HL_x1 := hide hle; have HC_x1 := hide hcm; clear hle hcm
  have HB_w4 := hide ((HB_w3).out.trans (hb.mono (HB_w3).out.size))
  have HR_x1 := hide HR.out; clear HR hb
  go_wp2_with fail
  refine (toIntS xs2 A2 c2 w4 hl2 (HA2.out.old (HB_w4).out)).mono ?_
  rintro e w5 ⟨v_x2, rfl, hO, hb⟩
  obtain ⟨A_x2, c_x2, rfl, hle, hcm, hR⟩ := hO.old
  have HR := hide hR; clear hR hO
  have HL_x2 := hide hle; have HC_x2 := hide hcm; clear hle hcm
  have HB_w5 := hide ((HB_w4).out.trans (hb.mono (HB_w4).out.size))
  have HR_x1 := hide (HR_x1.out.old hb)
  have HR_x2 := hide HR.out; clear HR hb
  go_wp2_with fail
  refine (implCycleRight a0 xs1 xs2 A_x1 A_x2 c_x1 c_x2 w5 hm1 hm2 HR_x1.out HR_x2.out).mono ?_
  rintro e w6 ⟨rfl, hb⟩
  have HB_w6 := hide ((HB_w5).out.trans (hb.mono (HB_w5).out.size))
  have HR_x1 := hide (HR_x1.out.old hb)
  have HR_x2 := hide (HR_x2.out.old hb)
  clear hb
  go_wp2_with fail
  refine (toEdgeS xs1 A1 c1 w6 hl1 (HA1.out.old (HB_w6).out)).mono ?_
  rintro e w7 ⟨v_y1, rfl, hO, hb⟩
  obtain ⟨A_y1, c_y1, rfl, hle, hcm, hR⟩ := hO.old
  have HR := hide hR; clear hR hO
  have HL_y1 := hide hle; have HC_y1 := hide hcm; clear hle hcm
  have HB_w7 := hide ((HB_w6).out.trans (hb.mono (HB_w6).out.size))
  have HR_x1 := hide (HR_x1.out.old hb)
  have HR_x2 := hide (HR_x2.out.old hb)
  have HR_y1 := hide HR.out; clear HR hb
  go_wp2_with fail
  refine (eqEdgeS xs1 A_x1 A_y1 c_x1 c_y1 w7 hm1 HR_x1.out HR_y1.out).mono ?_
  rintro e w8 ⟨rfl, hb⟩
  have HB_w8 := hide ((HB_w7).out.trans (hb.mono (HB_w7).out.size))
  have HR_x1 := hide (HR_x1.out.old hb)
  have HR_x2 := hide (HR_x2.out.old hb)
  have HR_y1 := hide (HR_y1.out.old hb)
  clear hb
  go_wp2_with fail
  refine (toIntS xs2 A2 c2 w8 hl2 (HA2.out.old (HB_w8).out)).mono ?_
  rintro e w9 ⟨v_y2, rfl, hO, hb⟩
  obtain ⟨A_y2, c_y2, rfl, hle, hcm, hR⟩ := hO.old
  have HR := hide hR; clear hR hO
  have HL_y2 := hide hle; have HC_y2 := hide hcm; clear hle hcm
  have HB_w9 := hide ((HB_w8).out.trans (hb.mono (HB_w8).out.size))
  have HR_x2 := hide (HR_x2.out.old hb)
  have HR_y2 := hide HR.out; clear HR hb
  go_wp2_with fail
  refine (eqIntS xs2 A_x2 A_y2 c_x2 c_y2 w9 hm2 HR_x2.out HR_y2.out).mono ?_
  rintro e w10 ⟨rfl, hb⟩
  have HB_w10 := hide ((HB_w9).out.trans (hb.mono (HB_w9).out.size))
  have HR_x2 := hide (HR_x2.out.old hb)
  have HR_y2 := hide (HR_y2.out.old hb)
  clear hb
  go_wp2_with fail
  go_ret
  exact ⟨rfl, (HB_w10).out⟩
end Go.Proofs.Ytcfllpgppinofaa
