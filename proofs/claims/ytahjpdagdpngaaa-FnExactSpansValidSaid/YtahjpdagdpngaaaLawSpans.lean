/- The law of SpansValid: the program answers as the reference does, for all arguments.  -/
import Derived.Test.YtahjpdagdpngaaaSpans
import Derived.Test.YtahjpdagdpngaaaToA
import Derived.Test.YtahjpdagdpngaaaEqA
import Derived.Test.YtahjpdagdpngaaaSz
import Derived.Test.YtahjpdagdpngaaaOpen
namespace Go.Proofs.Ytahjpdagdpngaaa
open Go.RowKit

set_option maxHeartbeats 1000000 in
theorem lawSpansValid (a0 : Int) (xs1 : List Span) (A1 : Option Addr) (c1 : Nat) (w : World) (hm1 : xs1.length ≤ maxLen) (hA1 : Row tSpan w (Old w) A1 xs1) :
    Calls Try.prog 4 #[.int .i64 a0, .slice A1 xs1.length c1] w fun e w' => e = .returned (.bool true) ∧ Below w.heap.size w w' := by
  have HA1 := hide hA1; clear hA1
  have hq1 : xs1.length ≤ 9223372036854775807 := by simpa [maxLen] using hm1
  go_enter Try.func4, Try.ntmps4
  go_wp2_with fail
  refine (szSpanS xs1.length A1 c1 1048576 w hm1 (by omega) (by omega)).mono ?_
  rintro e _ ⟨l1, rfl, hr, rfl⟩
  rcases hr with rfl | ⟨g1, k1⟩
  · go_wp2_with fail
    go_ret
    exact ⟨rfl, (Below.refl _ _)⟩
  have hl1 : xs1.length ≤ 1048576 := by omega
  have K1 := hide k1; clear k1
  go_wp2_with fail
  refine (toSpanS xs1 A1 c1 w hl1 HA1.out).mono ?_
  rintro e w1 ⟨v_s1, rfl, hO, hb⟩
  obtain ⟨A_s1, c_s1, rfl, hle, hcm, hR⟩ := hO.old
  have HR := hide hR; clear hR hO
  have HL_s1 := hide hle; have HC_s1 := hide hcm; clear hle hcm
  have HB_w1 := hide ((Below.refl _ _).trans (hb.mono (Nat.le_refl _)))
  have HR_s1 := hide HR.out; clear HR hb
  go_wp2_with fail
  refine (specSpansValid a0 xs1 A_s1 c_s1 w1 hm1 HR_s1.out).mono ?_
  rintro e w2 ⟨rfl, hb⟩
  have HB_w2 := hide ((HB_w1).out.trans (hb.mono (HB_w1).out.size))
  have HR_s1 := hide (HR_s1.out.old hb)
  clear hb
  go_wp2_with fail
  refine (toSpanS xs1 A1 c1 w2 hl1 (HA1.out.old (HB_w2).out)).mono ?_
  rintro e w3 ⟨v_x1, rfl, hO, hb⟩
  obtain ⟨A_x1, c_x1, rfl, hle, hcm, hR⟩ := hO.old
  have HR := hide hR; clear hR hO
  have HL_x1 := hide hle; have HC_x1 := hide hcm; clear hle hcm
  have HB_w3 := hide ((HB_w2).out.trans (hb.mono (HB_w2).out.size))
  have HR_x1 := hide HR.out; clear HR hb
  go_wp2_with fail
  refine (implSpansValid a0 xs1 A_x1 c_x1 w3 hm1 HR_x1.out).mono ?_
  rintro e w4 ⟨rfl, hb⟩
  have HB_w4 := hide ((HB_w3).out.trans (hb.mono (HB_w3).out.size))
  have HR_x1 := hide (HR_x1.out.old hb)
  clear hb
  go_wp2_with fail
  refine (toSpanS xs1 A1 c1 w4 hl1 (HA1.out.old (HB_w4).out)).mono ?_
  rintro e w5 ⟨v_y1, rfl, hO, hb⟩
  obtain ⟨A_y1, c_y1, rfl, hle, hcm, hR⟩ := hO.old
  have HR := hide hR; clear hR hO
  have HL_y1 := hide hle; have HC_y1 := hide hcm; clear hle hcm
  have HB_w5 := hide ((HB_w4).out.trans (hb.mono (HB_w4).out.size))
  have HR_x1 := hide (HR_x1.out.old hb)
  have HR_y1 := hide HR.out; clear HR hb
  go_wp2_with fail
  refine (eqSpanS xs1 A_x1 A_y1 c_x1 c_y1 w5 hm1 HR_x1.out HR_y1.out).mono ?_
  rintro e w6 ⟨rfl, hb⟩
  have HB_w6 := hide ((HB_w5).out.trans (hb.mono (HB_w5).out.size))
  have HR_x1 := hide (HR_x1.out.old hb)
  have HR_y1 := hide (HR_y1.out.old hb)
  clear hb
  go_wp2_with fail
  go_ret
  exact ⟨rfl, (HB_w6).out⟩
end Go.Proofs.Ytahjpdagdpngaaa
