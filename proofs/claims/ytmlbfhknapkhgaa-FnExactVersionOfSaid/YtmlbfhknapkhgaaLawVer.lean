/- The law of VersionOf: the program answers as the reference does, for all arguments.  -/
import Derived.Test.YtmlbfhknapkhgaaVerO
import Derived.Test.YtmlbfhknapkhgaaToA
import Derived.Test.YtmlbfhknapkhgaaToB
import Derived.Test.YtmlbfhknapkhgaaToC
import Derived.Test.YtmlbfhknapkhgaaEqA
import Derived.Test.YtmlbfhknapkhgaaEqB
import Derived.Test.YtmlbfhknapkhgaaEqC
import Derived.Test.YtmlbfhknapkhgaaSzC
import Derived.Test.YtmlbfhknapkhgaaSz
import Derived.Test.YtmlbfhknapkhgaaOpen
namespace Go.Proofs.Ytmlbfhknapkhgaa
open Go.RowKit

set_option maxHeartbeats 1000000 in
theorem lawVer (xs0 : List Txn) (A0 : Option Addr) (c0 : Nat) (xs1 : List (List Int)) (A1 : Option Addr) (c1 : Nat) (a2 : Int) (a3 : Int) (w : World) (hm0 : xs0.length ≤ maxLen) (hA0 : Row tTxn w (Old w) A0 xs0) (hm1 : xs1.length ≤ maxLen) (hA1 : Row (tSlice tInt) w (Old w) A1 xs1) :
    Calls Try.prog 10 #[.slice A0 xs0.length c0, .slice A1 xs1.length c1, .int .i64 a2, .int .i64 a3] w fun e w' => e = .returned (.bool true) ∧ Below w.heap.size w w' := by
  have HA0 := hide hA0; clear hA0
  have HA1 := hide hA1; clear hA1
  have hq0 : xs0.length ≤ 9223372036854775807 := by simpa [maxLen] using hm0
  have hq1 : xs1.length ≤ 9223372036854775807 := by simpa [maxLen] using hm1
  go_enter Try.func10, Try.ntmps10
  go_wp2_with fail
  refine (szTxnS xs0 A0 c0 1048576 w hm0 (lens_Txn HA0.out) (by omega) (by omega) HA0.out).mono ?_
  rintro e w1 ⟨l0, rfl, hr, hb⟩
  have HB_w1 := hide ((Below.refl _ _).trans (hb.mono (Nat.le_refl _)))
  clear hb
  rcases hr with rfl | ⟨g0, k0⟩
  · go_wp2_with fail
    go_ret
    exact ⟨rfl, (HB_w1).out⟩
  have hl0 : xs0.length ≤ 1048576 := by omega
  have hs0 : tot (fun x : Txn => x.Ops.length) xs0 ≤ 1048576 := by omega
  have hlu0 : l0 ≤ 1048576 := by omega
  have K0 := hide k0; clear k0
  go_wp2_with fail
  refine (szIntSS xs1 A1 c1 l0 w1 hm1 (lens_IntS HA1.out) (by omega) (by omega) (HA1.out.old (HB_w1).out)).mono ?_
  rintro e w2 ⟨l1, rfl, hr, hb⟩
  have HB_w2 := hide ((HB_w1).out.trans (hb.mono (HB_w1).out.size))
  clear hb
  rcases hr with rfl | ⟨g1, k1⟩
  · go_wp2_with fail
    go_ret
    exact ⟨rfl, (HB_w2).out⟩
  have hl1 : xs1.length ≤ 1048576 := by omega
  have hs1 : tot (List.length) xs1 ≤ 1048576 := by omega
  have hlu1 : l1 ≤ 1048576 := by omega
  have K1 := hide k1; clear k1
  go_wp2_with fail
  refine (toTxnS xs0 A0 c0 w2 hl0 (fun x hx => Nat.le_trans (tot_le (fun x : Txn => x.Ops.length) xs0 x hx) hs0) (HA0.out.old (HB_w2).out)).mono ?_
  rintro e w3 ⟨v_s0, rfl, hO, hb⟩
  obtain ⟨A_s0, c_s0, rfl, hle, hcm, hR⟩ := hO.weakTxn.old
  have HR := hide hR; clear hR hO
  have HL_s0 := hide hle; have HC_s0 := hide hcm; clear hle hcm
  have HB_w3 := hide ((HB_w2).out.trans (hb.mono (HB_w2).out.size))
  have HR_s0 := hide HR.out; clear HR hb
  go_wp2_with fail
  refine (toIntSS xs1 A1 c1 w3 hl1 (fun x hx => Nat.le_trans (tot_le (List.length) xs1 x hx) hs1) (HA1.out.old (HB_w3).out)).mono ?_
  rintro e w4 ⟨v_s1, rfl, hO, hb⟩
  obtain ⟨A_s1, c_s1, rfl, hle, hcm, hR⟩ := hO.weakIntS.old
  have HR := hide hR; clear hR hO
  have HL_s1 := hide hle; have HC_s1 := hide hcm; clear hle hcm
  have HB_w4 := hide ((HB_w3).out.trans (hb.mono (HB_w3).out.size))
  have HR_s0 := hide (HR_s0.out.old hb)
  have HR_s1 := hide HR.out; clear HR hb
  go_wp2_with fail
  refine (specVersionOf xs0 xs1 a2 a3 A_s0 A_s1 c_s0 c_s1 w4 hm0 hs0 hl1 (fun x hx => Nat.le_trans (tot_le (fun x : List Int => x.length) xs1 x hx) hs1) HR_s0.out HR_s1.out).mono ?_
  rintro e w5 ⟨rfl, hb⟩
  have HB_w5 := hide ((HB_w4).out.trans (hb.mono (HB_w4).out.size))
  have HR_s0 := hide (HR_s0.out.old hb)
  have HR_s1 := hide (HR_s1.out.old hb)
  clear hb
  go_wp2_with fail
  refine (toTxnS xs0 A0 c0 w5 hl0 (fun x hx => Nat.le_trans (tot_le (fun x : Txn => x.Ops.length) xs0 x hx) hs0) (HA0.out.old (HB_w5).out)).mono ?_
  rintro e w6 ⟨v_x0, rfl, hO, hb⟩
  obtain ⟨A_x0, c_x0, rfl, hle, hcm, hR⟩ := hO.weakTxn.old
  have HR := hide hR; clear hR hO
  have HL_x0 := hide hle; have HC_x0 := hide hcm; clear hle hcm
  have HB_w6 := hide ((HB_w5).out.trans (hb.mono (HB_w5).out.size))
  have HR_x0 := hide HR.out; clear HR hb
  go_wp2_with fail
  refine (toIntSS xs1 A1 c1 w6 hl1 (fun x hx => Nat.le_trans (tot_le (List.length) xs1 x hx) hs1) (HA1.out.old (HB_w6).out)).mono ?_
  rintro e w7 ⟨v_x1, rfl, hO, hb⟩
  obtain ⟨A_x1, c_x1, rfl, hle, hcm, hR⟩ := hO.weakIntS.old
  have HR := hide hR; clear hR hO
  have HL_x1 := hide hle; have HC_x1 := hide hcm; clear hle hcm
  have HB_w7 := hide ((HB_w6).out.trans (hb.mono (HB_w6).out.size))
  have HR_x0 := hide (HR_x0.out.old hb)
  have HR_x1 := hide HR.out; clear HR hb
  go_wp2_with fail
  refine (implVersionOf xs0 xs1 a2 a3 A_x0 A_x1 c_x0 c_x1 w7 hm0 hl1 (fun x hx => Nat.le_trans (tot_le (fun x : List Int => x.length) xs1 x hx) hs1) HR_x0.out HR_x1.out).mono ?_
  rintro e w8 ⟨rfl, hb⟩
  have HB_w8 := hide ((HB_w7).out.trans (hb.mono (HB_w7).out.size))
  have HR_x0 := hide (HR_x0.out.old hb)
  have HR_x1 := hide (HR_x1.out.old hb)
  clear hb
  go_wp2_with fail
  refine (toTxnS xs0 A0 c0 w8 hl0 (fun x hx => Nat.le_trans (tot_le (fun x : Txn => x.Ops.length) xs0 x hx) hs0) (HA0.out.old (HB_w8).out)).mono ?_
  rintro e w9 ⟨v_y0, rfl, hO, hb⟩
  obtain ⟨A_y0, c_y0, rfl, hle, hcm, hR⟩ := hO.weakTxn.old
  have HR := hide hR; clear hR hO
  have HL_y0 := hide hle; have HC_y0 := hide hcm; clear hle hcm
  have HB_w9 := hide ((HB_w8).out.trans (hb.mono (HB_w8).out.size))
  have HR_x0 := hide (HR_x0.out.old hb)
  have HR_x1 := hide (HR_x1.out.old hb)
  have HR_y0 := hide HR.out; clear HR hb
  go_wp2_with fail
  refine (eqTxnS xs0 A_x0 A_y0 c_x0 c_y0 w9 hm0 (fun x hx => Nat.le_trans (tot_le (fun x : Txn => x.Ops.length) xs0 x hx) (Nat.le_trans hs0 (by simp [maxLen]))) HR_x0.out HR_y0.out).mono ?_
  rintro e w10 ⟨rfl, hb⟩
  have HB_w10 := hide ((HB_w9).out.trans (hb.mono (HB_w9).out.size))
  have HR_x0 := hide (HR_x0.out.old hb)
  have HR_x1 := hide (HR_x1.out.old hb)
  have HR_y0 := hide (HR_y0.out.old hb)
  clear hb
  go_wp2_with fail
  refine (toIntSS xs1 A1 c1 w10 hl1 (fun x hx => Nat.le_trans (tot_le (List.length) xs1 x hx) hs1) (HA1.out.old (HB_w10).out)).mono ?_
  rintro e w11 ⟨v_y1, rfl, hO, hb⟩
  obtain ⟨A_y1, c_y1, rfl, hle, hcm, hR⟩ := hO.weakIntS.old
  have HR := hide hR; clear hR hO
  have HL_y1 := hide hle; have HC_y1 := hide hcm; clear hle hcm
  have HB_w11 := hide ((HB_w10).out.trans (hb.mono (HB_w10).out.size))
  have HR_x1 := hide (HR_x1.out.old hb)
  have HR_y1 := hide HR.out; clear HR hb
  go_wp2_with fail
  refine (eqIntSS xs1 A_x1 A_y1 c_x1 c_y1 w11 hm1 (fun x hx => Nat.le_trans (tot_le (List.length) xs1 x hx) (Nat.le_trans hs1 (by simp [maxLen]))) HR_x1.out HR_y1.out).mono ?_
  rintro e w12 ⟨rfl, hb⟩
  have HB_w12 := hide ((HB_w11).out.trans (hb.mono (HB_w11).out.size))
  have HR_x1 := hide (HR_x1.out.old hb)
  have HR_y1 := hide (HR_y1.out.old hb)
  clear hb
  go_wp2_with fail
  go_ret
  exact ⟨rfl, (HB_w12).out⟩
end Go.Proofs.Ytmlbfhknapkhgaa
