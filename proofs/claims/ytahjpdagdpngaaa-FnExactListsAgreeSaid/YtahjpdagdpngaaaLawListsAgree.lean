/- The law of ListsAgree: the program answers as the reference does, for all arguments.  -/
import Derived.Test.YtahjpdagdpngaaaListsAgree
import Derived.Test.YtahjpdagdpngaaaToB
import Derived.Test.YtahjpdagdpngaaaEqB
import Derived.Test.YtahjpdagdpngaaaSz
import Derived.Test.YtahjpdagdpngaaaOpen
namespace Go.Proofs.Ytahjpdagdpngaaa
open Go.RowKit

set_option maxHeartbeats 1000000 in
theorem lawListsAgree (xs0 : List (List Int)) (A0 : Option Addr) (c0 : Nat) (w : World) (hm0 : xs0.length ≤ maxLen) (hA0 : Row (tSlice tInt) w (Old w) A0 xs0) :
    Calls Try.prog 10 #[.slice A0 xs0.length c0] w fun e w' => e = .returned (.bool true) ∧ Below w.heap.size w w' := by
  have HA0 := hide hA0; clear hA0
  have hq0 : xs0.length ≤ 9223372036854775807 := by simpa [maxLen] using hm0
  go_enter Try.func10, Try.ntmps10
  go_wp2_with fail
  refine (szIntSS xs0 A0 c0 1048576 w hm0 (lens_IntS HA0.out) (by omega) (by omega) HA0.out).mono ?_
  rintro e w1 ⟨l0, rfl, hr, hb⟩
  have HB_w1 := hide ((Below.refl _ _).trans (hb.mono (Nat.le_refl _)))
  clear hb
  rcases hr with rfl | ⟨g0, k0⟩
  · go_wp2_with fail
    go_ret
    exact ⟨rfl, (HB_w1).out⟩
  have hl0 : xs0.length ≤ 1048576 := by omega
  have hs0 : tot (List.length) xs0 ≤ 1048576 := by omega
  have K0 := hide k0; clear k0
  go_wp2_with fail
  refine (toIntSS xs0 A0 c0 w1 hl0 (fun x hx => Nat.le_trans (tot_le (List.length) xs0 x hx) hs0) (HA0.out.old (HB_w1).out)).mono ?_
  rintro e w2 ⟨v_s0, rfl, hO, hb⟩
  obtain ⟨A_s0, c_s0, rfl, hle, hcm, hR⟩ := hO.weakIntS.old
  have HR := hide hR; clear hR hO
  have HL_s0 := hide hle; have HC_s0 := hide hcm; clear hle hcm
  have HB_w2 := hide ((HB_w1).out.trans (hb.mono (HB_w1).out.size))
  have HR_s0 := hide HR.out; clear HR hb
  go_wp2_with fail
  refine (specListsAgree xs0 A_s0 c_s0 w2 hm0 HR_s0.out).mono ?_
  rintro e w3 ⟨⟨p0, p1, rfl, hp⟩, hb⟩
  have HB_w3 := hide ((HB_w2).out.trans (hb.mono (HB_w2).out.size))
  have HR_s0 := hide (HR_s0.out.old hb)
  clear hb
  go_wp2_with fail
  refine (toIntSS xs0 A0 c0 w3 hl0 (fun x hx => Nat.le_trans (tot_le (List.length) xs0 x hx) hs0) (HA0.out.old (HB_w3).out)).mono ?_
  rintro e w4 ⟨v_x0, rfl, hO, hb⟩
  obtain ⟨A_x0, c_x0, rfl, hle, hcm, hR⟩ := hO.weakIntS.old
  have HR := hide hR; clear hR hO
  have HL_x0 := hide hle; have HC_x0 := hide hcm; clear hle hcm
  have HB_w4 := hide ((HB_w3).out.trans (hb.mono (HB_w3).out.size))
  have HR_x0 := hide HR.out; clear HR hb
  go_wp2_with fail
  refine (implListsAgree xs0 A_x0 c_x0 w4 hm0 HR_x0.out).mono ?_
  rintro e w5 ⟨⟨q0, q1, rfl, hq⟩, hb⟩
  have HB_w5 := hide ((HB_w4).out.trans (hb.mono (HB_w4).out.size))
  have HR_x0 := hide (HR_x0.out.old hb)
  clear hb
  obtain ⟨rfl, rfl⟩ := hp.unique hq
  clear hp hq
  go_wp2_with fail
  refine (toIntSS xs0 A0 c0 w5 hl0 (fun x hx => Nat.le_trans (tot_le (List.length) xs0 x hx) hs0) (HA0.out.old (HB_w5).out)).mono ?_
  rintro e w6 ⟨v_y0, rfl, hO, hb⟩
  obtain ⟨A_y0, c_y0, rfl, hle, hcm, hR⟩ := hO.weakIntS.old
  have HR := hide hR; clear hR hO
  have HL_y0 := hide hle; have HC_y0 := hide hcm; clear hle hcm
  have HB_w6 := hide ((HB_w5).out.trans (hb.mono (HB_w5).out.size))
  have HR_x0 := hide (HR_x0.out.old hb)
  have HR_y0 := hide HR.out; clear HR hb
  go_wp2_with fail
  refine (eqIntSS xs0 A_x0 A_y0 c_x0 c_y0 w6 hm0 (fun x hx => Nat.le_trans (tot_le (List.length) xs0 x hx) (Nat.le_trans hs0 (by simp [maxLen]))) HR_x0.out HR_y0.out).mono ?_
  rintro e w7 ⟨rfl, hb⟩
  have HB_w7 := hide ((HB_w6).out.trans (hb.mono (HB_w6).out.size))
  have HR_x0 := hide (HR_x0.out.old hb)
  have HR_y0 := hide (HR_y0.out.old hb)
  clear hb
  go_wp2_with fail
  go_ret
  exact ⟨rfl, (HB_w7).out⟩
end Go.Proofs.Ytahjpdagdpngaaa
