/- The law of StrictRight: the program answers as the reference does, for all arguments.  -/
import Derived.Test.YtmlbfhknapkhgaaStrict
import Derived.Test.YtmlbfhknapkhgaaToA
import Derived.Test.YtmlbfhknapkhgaaToC
import Derived.Test.YtmlbfhknapkhgaaEqA
import Derived.Test.YtmlbfhknapkhgaaEqC
import Derived.Test.YtmlbfhknapkhgaaSzC
import Derived.Test.YtmlbfhknapkhgaaSz
import Derived.Test.YtmlbfhknapkhgaaOpen
namespace Go.Proofs.Ytmlbfhknapkhgaa
open Go.RowKit

set_option maxHeartbeats 1000000 in
theorem lawStrict (xs0 : List Txn) (A0 : Option Addr) (c0 : Nat) (xs1 : List Span) (A1 : Option Addr) (c1 : Nat) (xs2 : List Int) (A2 : Option Addr) (c2 : Nat) (w : World) (hm0 : xs0.length ≤ maxLen) (hA0 : Row tTxn w (Old w) A0 xs0) (hm1 : xs1.length ≤ maxLen) (hA1 : Row tSpan w (Old w) A1 xs1) (hm2 : xs2.length ≤ maxLen) (hA2 : Row tInt w (Old w) A2 xs2) :
    Calls Try.prog 9 #[.slice A0 xs0.length c0, .slice A1 xs1.length c1, .slice A2 xs2.length c2] w fun e w' => e = .returned (.bool true) ∧ Below w.heap.size w w' := by
  have HA0 := hide hA0; clear hA0
  have HA1 := hide hA1; clear hA1
  have HA2 := hide hA2; clear hA2
  have hq0 : xs0.length ≤ 9223372036854775807 := by simpa [maxLen] using hm0
  have hq1 : xs1.length ≤ 9223372036854775807 := by simpa [maxLen] using hm1
  have hq2 : xs2.length ≤ 9223372036854775807 := by simpa [maxLen] using hm2
  by_cases hl2 : xs2.length ≤ 1048576
  rotate_left
  · go_enter Try.func9, Try.ntmps9
    go_wp2_with fail
    go_ret
    exact ⟨rfl, Below.refl _ _⟩
  go_enter Try.func9, Try.ntmps9
  go_wp2_with fail
  refine (szTxnS xs0 A0 c0 1048576 w hm0 (lens_Txn HA0.out) (by omega) (by omega) HA0.out).mono ?_
  rintro e w1 ⟨l0, rfl, hr, hb⟩
  have HB_w1 := hide ((Below.refl _ _).trans (hb.mono (Nat.le_refl _)))
  clear hb
  rcases hr with rfl | ⟨g0, k0⟩
  · go_wp2_with fail
    go_ret
    exact ⟨rfl, (HB_w1).out⟩
  have hl0 : xs0.length ≤ 1048576 := by omega
  have hs0 : tot (fun x : Txn => x.Ops.length) xs0 ≤ 1048576 := by omega
  have hlu0 : l0 ≤ 1048576 := by omega
  have K0 := hide k0; clear k0
  go_wp2_with fail
  refine (szSpanS xs1.length A1 c1 l0 w1 hm1 (by omega) (by omega)).mono ?_
  rintro e _ ⟨l1, rfl, hr, rfl⟩
  rcases hr with rfl | ⟨g1, k1⟩
  · go_wp2_with fail
    go_ret
    exact ⟨rfl, (HB_w1).out⟩
  have hl1 : xs1.length ≤ 1048576 := by omega
  have hlu1 : l1 ≤ 1048576 := by omega
  have K1 := hide k1; clear k1
  go_wp2_with fail
  refine (toTxnS xs0 A0 c0 w1 hl0 (fun x hx => Nat.le_trans (tot_le (fun x : Txn => x.Ops.length) xs0 x hx) hs0) (HA0.out.old (HB_w1).out)).mono ?_
  rintro e w2 ⟨v_s0, rfl, hO, hb⟩
  obtain ⟨A_s0, c_s0, rfl, hle, hcm, hR⟩ := hO.weakTxn.old
  have HR := hide hR; clear hR hO
  have HL_s0 := hide hle; have HC_s0 := hide hcm; clear hle hcm
  have HB_w2 := hide ((HB_w1).out.trans (hb.mono (HB_w1).out.size))
  have HR_s0 := hide HR.out; clear HR hb
  go_wp2_with fail
  refine (toSpanS xs1 A1 c1 w2 hl1 (HA1.out.old (HB_w2).out)).mono ?_
  rintro e w3 ⟨v_s1, rfl, hO, hb⟩
  obtain ⟨A_s1, c_s1, rfl, hle, hcm, hR⟩ := hO.old
  have HR := hide hR; clear hR hO
  have HL_s1 := hide hle; have HC_s1 := hide hcm; clear hle hcm
  have HB_w3 := hide ((HB_w2).out.trans (hb.mono (HB_w2).out.size))
  have HR_s0 := hide (HR_s0.out.old hb)
  have HR_s1 := hide HR.out; clear HR hb
  go_wp2_with fail
  refine (toIntS xs2 A2 c2 w3 hl2 (HA2.out.old (HB_w3).out)).mono ?_
  rintro e w4 ⟨v_s2, rfl, hO, hb⟩
  obtain ⟨A_s2, c_s2, rfl, hle, hcm, hR⟩ := hO.old
  have HR := hide hR; clear hR hO
  have HL_s2 := hide hle; have HC_s2 := hide hcm; clear hle hcm
  have HB_w4 := hide ((HB_w3).out.trans (hb.mono (HB_w3).out.size))
  have HR_s0 := hide (HR_s0.out.old hb)
  have HR_s1 := hide (HR_s1.out.old hb)
  have HR_s2 := hide HR.out; clear HR hb
  go_wp2_with fail
  refine (specStrictRight xs0 xs1 xs2 A_s0 A_s1 A_s2 c_s0 c_s1 c_s2 w4 hm0 hs0 hm1 hl2 HR_s0.out HR_s1.out HR_s2.out).mono ?_
  rintro e w5 ⟨rfl, hb⟩
  have HB_w5 := hide ((HB_w4).out.trans (hb.mono (HB_w4).out.size))
  have HR_s0 := hide (HR_s0.out.old hb)
  have HR_s1 := hide (HR_s1.out.old hb)
  have HR_s2 := hide (HR_s2.out.old hb)
  clear hb
  go_wp2_with fail
  refine (toTxnS xs0 A0 c0 w5 hl0 (fun x hx => Nat.le_trans (tot_le (fun x : Txn => x.Ops.length) xs0 x hx) hs0) (HA0.out.old (HB_w5).out)).mono ?_
  rintro e w6 ⟨v_x0, rfl, hO, hb⟩
  obtain ⟨A_x0, c_x0, rfl, hle, hcm, hR⟩ := hO.weakTxn.old
  have HR := hide hR; clear hR hO
  have HL_x0 := hide hle; have HC_x0 := hide hcm; clear hle hcm
  have HB_w6 := hide ((HB_w5).out.trans (hb.mono (HB_w5).out.size))
  have HR_x0 := hide HR.out; clear HR hb
  go_wp2_with fail
  refine (toSpanS xs1 A1 c1 w6 hl1 (HA1.out.old (HB_w6).out)).mono ?_
  rintro e w7 ⟨v_x1, rfl, hO, hb⟩
  obtain ⟨A_x1, c_x1, rfl, hle, hcm, hR⟩ := hO.old
  have HR := hide hR; clear hR hO
  have HL_x1 := hide hle; have HC_x1 := hide hcm; clear hle hcm
  have HB_w7 := hide ((HB_w6).out.trans (hb.mono (HB_w6).out.size))
  have HR_x0 := hide (HR_x0.out.old hb)
  have HR_x1 := hide HR.out; clear HR hb
  go_wp2_with fail
  refine (toIntS xs2 A2 c2 w7 hl2 (HA2.out.old (HB_w7).out)).mono ?_
  rintro e w8 ⟨v_x2, rfl, hO, hb⟩
  obtain ⟨A_x2, c_x2, rfl, hle, hcm, hR⟩ := hO.old
  have HR := hide hR; clear hR hO
  have HL_x2 := hide hle; have HC_x2 := hide hcm; clear hle hcm
  have HB_w8 := hide ((HB_w7).out.trans (hb.mono (HB_w7).out.size))
  have HR_x0 := hide (HR_x0.out.old hb)
  have HR_x1 := hide (HR_x1.out.old hb)
  have HR_x2 := hide HR.out; clear HR hb
  go_wp2_with fail
  refine (implStrictRight xs0 xs1 xs2 A_x0 A_x1 A_x2 c_x0 c_x1 c_x2 w8 hm0 hm1 hl2 HL_x2.out HR_x0.out HR_x1.out HR_x2.out).mono ?_
  rintro e w9 ⟨rfl, hb⟩
  have HB_w9 := hide ((HB_w8).out.trans (hb.mono (HB_w8).out.size))
  have HR_x0 := hide (HR_x0.out.old hb)
  have HR_x1 := hide (HR_x1.out.old hb)
  have HR_x2 := hide (HR_x2.out.old hb)
  clear hb
  go_wp2_with fail
  refine (toTxnS xs0 A0 c0 w9 hl0 (fun x hx => Nat.le_trans (tot_le (fun x : Txn => x.Ops.length) xs0 x hx) hs0) (HA0.out.old (HB_w9).out)).mono ?_
  rintro e w10 ⟨v_y0, rfl, hO, hb⟩
  obtain ⟨A_y0, c_y0, rfl, hle, hcm, hR⟩ := hO.weakTxn.old
  have HR := hide hR; clear hR hO
  have HL_y0 := hide hle; have HC_y0 := hide hcm; clear hle hcm
  have HB_w10 := hide ((HB_w9).out.trans (hb.mono (HB_w9).out.size))
  have HR_x0 := hide (HR_x0.out.old hb)
  have HR_x1 := hide (HR_x1.out.old hb)
  have HR_x2 := hide (HR_x2.out.old hb)
  have HR_y0 := hide HR.out; clear HR hb
  go_wp2_with fail
  refine (eqTxnS xs0 A_x0 A_y0 c_x0 c_y0 w10 hm0 (fun x hx => Nat.le_trans (tot_le (fun x : Txn => x.Ops.length) xs0 x hx) (Nat.le_trans hs0 (by simp [maxLen]))) HR_x0.out HR_y0.out).mono ?_
  rintro e w11 ⟨rfl, hb⟩
  have HB_w11 := hide ((HB_w10).out.trans (hb.mono (HB_w10).out.size))
  have HR_x0 := hide (HR_x0.out.old hb)
  have HR_x1 := hide (HR_x1.out.old hb)
  have HR_x2 := hide (HR_x2.out.old hb)
  have HR_y0 := hide (HR_y0.out.old hb)
  clear hb
  go_wp2_with fail
  refine (toSpanS xs1 A1 c1 w11 hl1 (HA1.out.old (HB_w11).out)).mono ?_
  rintro e w12 ⟨v_y1, rfl, hO, hb⟩
  obtain ⟨A_y1, c_y1, rfl, hle, hcm, hR⟩ := hO.old
  have HR := hide hR; clear hR hO
  have HL_y1 := hide hle; have HC_y1 := hide hcm; clear hle hcm
  have HB_w12 := hide ((HB_w11).out.trans (hb.mono (HB_w11).out.size))
  have HR_x1 := hide (HR_x1.out.old hb)
  have HR_x2 := hide (HR_x2.out.old hb)
  have HR_y1 := hide HR.out; clear HR hb
  go_wp2_with fail
  refine (eqSpanS xs1 A_x1 A_y1 c_x1 c_y1 w12 hm1 HR_x1.out HR_y1.out).mono ?_
  rintro e w13 ⟨rfl, hb⟩
  have HB_w13 := hide ((HB_w12).out.trans (hb.mono (HB_w12).out.size))
  have HR_x1 := hide (HR_x1.out.old hb)
  have HR_x2 := hide (HR_x2.out.old hb)
  have HR_y1 := hide (HR_y1.out.old hb)
  clear hb
  go_wp2_with fail
  refine (toIntS xs2 A2 c2 w13 hl2 (HA2.out.old (HB_w13).out)).mono ?_
  rintro e w14 ⟨v_y2, rfl, hO, hb⟩
  obtain ⟨A_y2, c_y2, rfl, hle, hcm, hR⟩ := hO.old
  have HR := hide hR; clear hR hO
  have HL_y2 := hide hle; have HC_y2 := hide hcm; clear hle hcm
  have HB_w14 := hide ((HB_w13).out.trans (hb.mono (HB_w13).out.size))
  have HR_x2 := hide (HR_x2.out.old hb)
  have HR_y2 := hide HR.out; clear HR hb
  go_wp2_with fail
  refine (eqIntS xs2 A_x2 A_y2 c_x2 c_y2 w14 hm2 HR_x2.out HR_y2.out).mono ?_
  rintro e w15 ⟨rfl, hb⟩
  have HB_w15 := hide ((HB_w14).out.trans (hb.mono (HB_w14).out.size))
  have HR_x2 := hide (HR_x2.out.old hb)
  have HR_y2 := hide (HR_y2.out.old hb)
  clear hb
  go_wp2_with fail
  go_ret
  exact ⟨rfl, (HB_w15).out⟩
end Go.Proofs.Ytmlbfhknapkhgaa
