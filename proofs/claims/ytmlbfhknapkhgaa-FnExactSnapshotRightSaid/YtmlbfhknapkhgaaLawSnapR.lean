/- The law of SnapshotRight: the program answers as the reference does, for all arguments.  -/
import Derived.Test.YtmlbfhknapkhgaaSnapS
import Derived.Test.YtmlbfhknapkhgaaToA
import Derived.Test.YtmlbfhknapkhgaaToC
import Derived.Test.YtmlbfhknapkhgaaEqA
import Derived.Test.YtmlbfhknapkhgaaEqC
import Derived.Test.YtmlbfhknapkhgaaSzC
import Derived.Test.YtmlbfhknapkhgaaOpen
namespace Go.Proofs.Ytmlbfhknapkhgaa
open Go.RowKit
set_option linter.unusedVariables false

set_option maxHeartbeats 1000000 in
theorem lawSnapR (xs0 : List Txn) (A0 : Option Addr) (c0 : Nat) (xs1 : List Int) (A1 : Option Addr) (c1 : Nat) (w : World) (hm0 : xs0.length ≤ maxLen) (hA0 : Row tTxn w (Old w) A0 xs0) (hm1 : xs1.length ≤ maxLen) (hA1 : Row tInt w (Old w) A1 xs1) :
    Calls Try.prog 6 #[.slice A0 xs0.length c0, .slice A1 xs1.length c1] w fun e w' => e = .returned (.bool true) ∧ Below w.heap.size w w' := by
  have HA0 := hide hA0; clear hA0
  have HA1 := hide hA1; clear hA1
  have hq0 : xs0.length ≤ 9223372036854775807 := by simpa [maxLen] using hm0
  have hq1 : xs1.length ≤ 9223372036854775807 := by simpa [maxLen] using hm1
  by_cases hl1 : xs1.length ≤ 1048576
  rotate_left
  · go_enter Try.func6, Try.ntmps6
    go_wp2_with fail
    go_ret
    exact ⟨rfl, Below.refl _ _⟩
  go_enter Try.func6, Try.ntmps6
  go_wp2_with fail
  refine (szTxnS xs0 A0 c0 1048576 w hm0 (lens_Txn HA0.out) (by omega) (by omega) HA0.out).mono ?_
  rintro e w1 ⟨l0, rfl, hr, hb⟩
  have HB_w1 := hide ((Below.refl _ _).trans (hb.mono (Nat.le_refl _)))
  clear hb
  rcases hr with rfl | ⟨g0, k0⟩
  · go_wp2_with fail
    go_ret
    exact ⟨rfl, (HB_w1).out⟩
  have hl0 : xs0.length ≤ 1048576 := by omega
  have hs0 : tot (fun x : Txn => x.Ops.length) xs0 ≤ 1048576 := by omega
  have K0 := hide k0; clear k0
  go_wp2_with fail
  refine (toTxnS xs0 A0 c0 w1 hl0 (fun x hx => Nat.le_trans (tot_le (fun x : Txn => x.Ops.length) xs0 x hx) hs0) (HA0.out.old (HB_w1).out)).mono ?_
  rintro e w2 ⟨v_s0, rfl, hO, hb⟩
  obtain ⟨A_s0, c_s0, rfl, hle, hcm, hR⟩ := hO.weakTxn.old
  have HR := hide hR; clear hR hO
  have HL_s0 := hide hle; have HC_s0 := hide hcm; clear hle hcm
  have HB_w2 := hide ((HB_w1).out.trans (hb.mono (HB_w1).out.size))
  have HR_s0 := hide HR.out; clear HR hb
  go_wp2_with fail
  refine (toIntS xs1 A1 c1 w2 hl1 (HA1.out.old (HB_w2).out)).mono ?_
  rintro e w3 ⟨v_s1, rfl, hO, hb⟩
  obtain ⟨A_s1, c_s1, rfl, hle, hcm, hR⟩ := hO.old
  have HR := hide hR; clear hR hO
  have HL_s1 := hide hle; have HC_s1 := hide hcm; clear hle hcm
  have HB_w3 := hide ((HB_w2).out.trans (hb.mono (HB_w2).out.size))
  have HR_s0 := hide (HR_s0.out.old hb)
  have HR_s1 := hide HR.out; clear HR hb
  go_wp2_with fail
  refine (specSnapshotRight xs0 xs1 A_s0 A_s1 c_s0 c_s1 w3 hm0 hs0 hl1 HL_s1.out HC_s1.out HR_s0.out HR_s1.out).mono ?_
  rintro e w4 ⟨rfl, hb⟩
  have HB_w4 := hide ((HB_w3).out.trans (hb.mono (HB_w3).out.size))
  have HR_s0 := hide (HR_s0.out.old hb)
  have HR_s1 := hide (HR_s1.out.old hb)
  clear hb
  go_wp2_with fail
  refine (toTxnS xs0 A0 c0 w4 hl0 (fun x hx => Nat.le_trans (tot_le (fun x : Txn => x.Ops.length) xs0 x hx) hs0) (HA0.out.old (HB_w4).out)).mono ?_
  rintro e w5 ⟨v_x0, rfl, hO, hb⟩
  obtain ⟨A_x0, c_x0, rfl, hle, hcm, hR⟩ := hO.weakTxn.old
  have HR := hide hR; clear hR hO
  have HL_x0 := hide hle; have HC_x0 := hide hcm; clear hle hcm
  have HB_w5 := hide ((HB_w4).out.trans (hb.mono (HB_w4).out.size))
  have HR_x0 := hide HR.out; clear HR hb
  go_wp2_with fail
  refine (toIntS xs1 A1 c1 w5 hl1 (HA1.out.old (HB_w5).out)).mono ?_
  rintro e w6 ⟨v_x1, rfl, hO, hb⟩
  obtain ⟨A_x1, c_x1, rfl, hle, hcm, hR⟩ := hO.old
  have HR := hide hR; clear hR hO
  have HL_x1 := hide hle; have HC_x1 := hide hcm; clear hle hcm
  have HB_w6 := hide ((HB_w5).out.trans (hb.mono (HB_w5).out.size))
  have HR_x0 := hide (HR_x0.out.old hb)
  have HR_x1 := hide HR.out; clear HR hb
  go_wp2_with fail
  refine (implSnapshotRight xs0 xs1 A_x0 A_x1 c_x0 c_x1 w6 hm0 hl1 HR_x0.out HR_x1.out).mono ?_
  rintro e w7 ⟨rfl, hb⟩
  have HB_w7 := hide ((HB_w6).out.trans (hb.mono (HB_w6).out.size))
  have HR_x0 := hide (HR_x0.out.old hb)
  have HR_x1 := hide (HR_x1.out.old hb)
  clear hb
  go_wp2_with fail
  refine (toTxnS xs0 A0 c0 w7 hl0 (fun x hx => Nat.le_trans (tot_le (fun x : Txn => x.Ops.length) xs0 x hx) hs0) (HA0.out.old (HB_w7).out)).mono ?_
  rintro e w8 ⟨v_y0, rfl, hO, hb⟩
  obtain ⟨A_y0, c_y0, rfl, hle, hcm, hR⟩ := hO.weakTxn.old
  have HR := hide hR; clear hR hO
  have HL_y0 := hide hle; have HC_y0 := hide hcm; clear hle hcm
  have HB_w8 := hide ((HB_w7).out.trans (hb.mono (HB_w7).out.size))
  have HR_x0 := hide (HR_x0.out.old hb)
  have HR_x1 := hide (HR_x1.out.old hb)
  have HR_y0 := hide HR.out; clear HR hb
  go_wp2_with fail
  refine (eqTxnS xs0 A_x0 A_y0 c_x0 c_y0 w8 hm0 (fun x hx => Nat.le_trans (tot_le (fun x : Txn => x.Ops.length) xs0 x hx) (Nat.le_trans hs0 (by simp [maxLen]))) HR_x0.out HR_y0.out).mono ?_
  rintro e w9 ⟨rfl, hb⟩
  have HB_w9 := hide ((HB_w8).out.trans (hb.mono (HB_w8).out.size))
  have HR_x0 := hide (HR_x0.out.old hb)
  have HR_x1 := hide (HR_x1.out.old hb)
  have HR_y0 := hide (HR_y0.out.old hb)
  clear hb
  go_wp2_with fail
  refine (toIntS xs1 A1 c1 w9 hl1 (HA1.out.old (HB_w9).out)).mono ?_
  rintro e w10 ⟨v_y1, rfl, hO, hb⟩
  obtain ⟨A_y1, c_y1, rfl, hle, hcm, hR⟩ := hO.old
  have HR := hide hR; clear hR hO
  have HL_y1 := hide hle; have HC_y1 := hide hcm; clear hle hcm
  have HB_w10 := hide ((HB_w9).out.trans (hb.mono (HB_w9).out.size))
  have HR_x1 := hide (HR_x1.out.old hb)
  have HR_y1 := hide HR.out; clear HR hb
  go_wp2_with fail
  refine (eqIntS xs1 A_x1 A_y1 c_x1 c_y1 w10 hm1 HR_x1.out HR_y1.out).mono ?_
  rintro e w11 ⟨rfl, hb⟩
  have HB_w11 := hide ((HB_w10).out.trans (hb.mono (HB_w10).out.size))
  have HR_x1 := hide (HR_x1.out.old hb)
  have HR_y1 := hide (HR_y1.out.old hb)
  clear hb
  go_wp2_with fail
  go_ret
  exact ⟨rfl, (HB_w11).out⟩
end Go.Proofs.Ytmlbfhknapkhgaa
