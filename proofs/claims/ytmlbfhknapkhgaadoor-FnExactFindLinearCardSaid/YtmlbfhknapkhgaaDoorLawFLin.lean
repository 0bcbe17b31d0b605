/- The law of FindLinear: the program answers as the reference does, for all arguments, in memory of its own.  -/
import Derived.Test.YtmlbfhknapkhgaaDoorFLinS
import Derived.Test.YtmlbfhknapkhgaaDoorFLinG
import Derived.Test.YtmlbfhknapkhgaaDoorHoldsI
import Derived.Test.YtmlbfhknapkhgaaDoorMarkC
import Derived.Test.YtmlbfhknapkhgaaDoorTabOf
import Derived.Test.YtmlbfhknapkhgaaDoorToA
import Derived.Test.YtmlbfhknapkhgaaDoorToB
import Derived.Test.YtmlbfhknapkhgaaDoorEqA
import Derived.Test.YtmlbfhknapkhgaaDoorEqB
import Derived.Test.YtmlbfhknapkhgaaDoorSz
import Derived.Test.YtmlbfhknapkhgaaDoorOpen
namespace Go.Proofs.YtmlbfhknapkhgaaDoor
open Go.RowKit
set_option linter.unusedVariables false

set_option maxRecDepth 10000 in
set_option maxHeartbeats 2000000 in
theorem lawFLin (xs0 : List Call) (A0 : Option Addr) (c0 : Nat) (w : World) (hm0 : xs0.length ≤ maxLen) (hA0 : Row tCall w (Old w) A0 xs0) (hT : TabDB w) :
    Calls Tryd.prog 5 #[.slice A0 xs0.length c0] w fun e w' => e = .returned (.bool true) ∧ Below w.heap.size w w' := by
  have HT := hide hT; clear hT
  have HA0 := hide hA0; clear hA0
  have hq0 : xs0.length ≤ 9223372036854775807 := by simpa [maxLen] using hm0
  go_enter Tryd.func5, Tryd.ntmps5
  go_wp2_with fail
  refine (szCallS xs0.length A0 c0 1048576 w hm0 (by omega) (by omega)).mono ?_
  rintro e _ ⟨l0, rfl, hr, rfl⟩
  rcases hr with rfl | ⟨g0, k0⟩
  · go_wp2_with fail
    go_ret
    exact ⟨rfl, (Below.refl _ _)⟩
  have hl0 : xs0.length ≤ 1048576 := by omega
  have K0 := hide k0; clear k0
  have HRl0 := flR_len xs0
  obtain ⟨R, hRe⟩ : ∃ R, flR xs0 = R := ⟨_, rfl⟩
  obtain ⟨B, hBe⟩ : ∃ B, flB xs0 = B := ⟨_, rfl⟩
  rw [hRe] at HRl0
  have HRl := hide HRl0
  have HRe := hide hRe; have HBe := hide hBe; clear hRe hBe HRl0
  go_wp2_with fail
  refine (toCallS xs0 A0 c0 w hl0 HA0.out).mono ?_
  rintro e w1 ⟨v_s0, rfl, hO, hb⟩
  obtain ⟨A_s0, c_s0, rfl, hle, hcm, hR⟩ := hO.old
  have HR := hide hR; clear hR hO
  have HL_s0 := hide hle; have HC_s0 := hide hcm; clear hle hcm
  have hz_w1 : w.heap.size ≤ w1.heap.size := hb.size
  have HB_w1 := hide ((Below.refl _ _).trans (hb.mono (Nat.le_refl _)))
  have HR_s0 := hide HR.out; clear HR hb
  go_wp2_with fail
  have hc := specFindLinear xs0 A_s0 c_s0 w1 hl0 HR_s0.out
  rw [HRe.out, HBe.out] at hc
  refine hc.mono ?_
  clear hc
  rintro e w2 ⟨v_v0, rfl, hF, hb⟩
  obtain ⟨A_v0, c_v0, rfl, _, _, hR⟩ := hF
  have HR0 := hide hR; clear hR
  have hz_w2 : w1.heap.size ≤ w2.heap.size := hb.size
  have HB_w2 := hide ((HB_w1).out.trans (hb.mono (HB_w1).out.size))
  have HR_s0 := hide (HR_s0.out.old hb)
  have HR_v0 := hide HR0.out; clear HR0 hb
  go_wp2_with fail
  refine (toCallS xs0 A0 c0 w2 hl0 (HA0.out.old (HB_w2).out)).mono ?_
  rintro e w3 ⟨v_x0, rfl, hO, hb⟩
  have HO0 := hide hO
  obtain ⟨A_x0, c_x0, rfl, hle, hcm, hR⟩ := hO.old
  have HR := hide hR; clear hR hO
  have HL_x0 := hide hle; have HC_x0 := hide hcm; clear hle hcm
  have hz_w3 : w2.heap.size ≤ w3.heap.size := hb.size
  have HR_v0 := hide (HR_v0.out.mono (fun _ h => h) (fun b h => hb.block b (by have := h.2; omega)))
  have HB_w3 := hide ((HB_w2).out.trans (hb.mono (HB_w2).out.size))
  have HR_x0 := hide HR.out; have HO_x0 := hide HO0.out; clear HR HO0 hb
  go_wp2_with fail
  have hc := implFindLinear xs0 A_x0 c_x0 w3 hm0 HR_x0.out (HT.out.below HT.out.lt (HB_w3).out) (Nat.lt_of_lt_of_le HT.out.lt (HB_w3).out.size)
  rw [HRe.out, HBe.out] at hc
  refine hc.mono ?_
  clear hc
  rintro e w4 ⟨v_g0, rfl, hF, hb⟩
  have HH0 := hide hF
  obtain ⟨A_g0, c_g0, rfl, _, _, hR⟩ := hF.sl
  have HR0 := hide hR; clear hR hF
  have hz_w4 : w3.heap.size ≤ w4.heap.size := hb.size
  have HR_v0 := hide (HR_v0.out.mono (fun _ h => h) (fun b h => hb.block b (by have := h.2; omega)))
  have HO_x0 := hide (HO_x0.out.mono (fun _ h => h) (fun b h => hb.block b (by have := h.2; omega)))
  have HB_w4 := hide ((HB_w3).out.trans (hb.mono (HB_w3).out.size))
  have HR_x0 := hide (HR_x0.out.old hb)
  have HR_g0 := hide HR0.out; clear HR0 hb
  have HH_g0 := hide HH0.out; clear HH0
  go_wp2_with fail
  refine (eqIntS R A_g0 A_v0 c_g0 c_v0 w4 (by have := HRl.out; simp only [maxLen]; omega) (HR_g0.out.mono (S' := Old w4) (fun b h => by have := h.2; unfold Old; omega) (fun _ _ => rfl)) (HR_v0.out.mono (S' := Old w4) (fun b h => by have := h.2; unfold Old; omega) (fun _ _ => rfl))).mono ?_
  rintro e w5 ⟨rfl, hb⟩
  have hz_w5 : w4.heap.size ≤ w5.heap.size := hb.size
  have HR_v0 := hide (HR_v0.out.mono (fun _ h => h) (fun b h => hb.block b (by have := h.2; omega)))
  have HO_x0 := hide (HO_x0.out.mono (fun _ h => h) (fun b h => hb.block b (by have := h.2; omega)))
  have HR_g0 := hide (HR_g0.out.mono (fun _ h => h) (fun b h => hb.block b (by have := h.2; omega)))
  have HH_g0 := hide (HH_g0.out.mono (fun _ h => h) (fun b h => hb.block b (by have := h.2; omega)))
  have HB_w5 := hide ((HB_w4).out.trans (hb.mono (HB_w4).out.size))
  have HR_x0 := hide (HR_x0.out.old hb)
  clear hb
  go_wp2_with fail
  refine (toCallS xs0 A0 c0 w5 hl0 (HA0.out.old (HB_w5).out)).mono ?_
  rintro e w6 ⟨v_y0, rfl, hO, hb⟩
  obtain ⟨A_y0, c_y0, rfl, hle, hcm, hR⟩ := hO.old
  have HR := hide hR; clear hR hO
  have HL_y0 := hide hle; have HC_y0 := hide hcm; clear hle hcm
  have hz_w6 : w5.heap.size ≤ w6.heap.size := hb.size
  have HR_v0 := hide (HR_v0.out.mono (fun _ h => h) (fun b h => hb.block b (by have := h.2; omega)))
  have HO_x0 := hide (HO_x0.out.mono (fun _ h => h) (fun b h => hb.block b (by have := h.2; omega)))
  have HR_g0 := hide (HR_g0.out.mono (fun _ h => h) (fun b h => hb.block b (by have := h.2; omega)))
  have HH_g0 := hide (HH_g0.out.mono (fun _ h => h) (fun b h => hb.block b (by have := h.2; omega)))
  have HB_w6 := hide ((HB_w5).out.trans (hb.mono (HB_w5).out.size))
  have HR_x0 := hide (HR_x0.out.old hb)
  have HR_y0 := hide HR.out; clear HR hb
  go_wp2_with fail
  refine (eqCallS xs0 A_x0 A_y0 c_x0 c_y0 w6 hm0 HR_x0.out HR_y0.out).mono ?_
  rintro e w7 ⟨rfl, hb⟩
  have hz_w7 : w6.heap.size ≤ w7.heap.size := hb.size
  have HR_v0 := hide (HR_v0.out.mono (fun _ h => h) (fun b h => hb.block b (by have := h.2; omega)))
  have HO_x0 := hide (HO_x0.out.mono (fun _ h => h) (fun b h => hb.block b (by have := h.2; omega)))
  have HR_g0 := hide (HR_g0.out.mono (fun _ h => h) (fun b h => hb.block b (by have := h.2; omega)))
  have HH_g0 := hide (HH_g0.out.mono (fun _ h => h) (fun b h => hb.block b (by have := h.2; omega)))
  have HB_w7 := hide ((HB_w6).out.trans (hb.mono (HB_w6).out.size))
  have HR_x0 := hide (HR_x0.out.old hb)
  have HR_y0 := hide (HR_y0.out.old hb)
  clear hb
  go_wp2_with fail
  refine (markCallS_arg xs0 1 A_x0 c_x0 w7 (New w2 w3) hl0 rfl HO_x0.out).mono ?_
  rintro e w8 ⟨⟨rk, rfl, hrk⟩, ho⟩
  have hz_w8 : w7.heap.size ≤ w8.heap.size := ho.size
  have HR_v0 := hide (HR_v0.out.mono (fun _ h => h) (fun b h => ho.block b (by have := h.2; omega) (fun hS => by have h1 := h.1; have h2 := h.2; have h3 := hS.1; have h4 := hS.2; omega)))
  have HR_g0 := hide (HR_g0.out.mono (fun _ h => h) (fun b h => ho.block b (by have := h.2; omega) (fun hS => by have h1 := h.1; have h2 := h.2; have h3 := hS.1; have h4 := hS.2; omega)))
  have HH_g0 := hide (HH_g0.out.mono (fun _ h => h) (fun b h => ho.block b (by have := h.2; omega) (fun hS => by have h1 := h.1; have h2 := h.2; have h3 := hS.1; have h4 := hS.2; omega)))
  have HB_w8 := hide (below_only (HB_w7).out ho (HB_w7).out.size (fun i hi => by have := hi.1; omega))
  clear ho
  go_wp2_with fail
  refine (eqIntS R A_g0 A_v0 c_g0 c_v0 w8 (by have := HRl.out; simp only [maxLen]; omega) (HR_g0.out.mono (S' := Old w8) (fun b h => by have := h.2; unfold Old; omega) (fun _ _ => rfl)) (HR_v0.out.mono (S' := Old w8) (fun b h => by have := h.2; unfold Old; omega) (fun _ _ => rfl))).mono ?_
  rintro e w9 ⟨rfl, hb⟩
  have hz_w9 : w8.heap.size ≤ w9.heap.size := hb.size
  have HR_v0 := hide (HR_v0.out.mono (fun _ h => h) (fun b h => hb.block b (by have := h.2; omega)))
  have HR_g0 := hide (HR_g0.out.mono (fun _ h => h) (fun b h => hb.block b (by have := h.2; omega)))
  have HH_g0 := hide (HH_g0.out.mono (fun _ h => h) (fun b h => hb.block b (by have := h.2; omega)))
  have HB_w9 := hide ((HB_w8).out.trans (hb.mono (HB_w8).out.size))
  clear hb
  go_wp2_with fail
  refine (markInt_hold R 1 A_g0 c_g0 w9 (New w3 w4) HRl.out (by omega) (by omega) HH_g0.out).mono ?_
  rintro e w10 ⟨ks_, rfl, ho, hK⟩
  have hz_w10 : w9.heap.size ≤ w10.heap.size := ho.size
  have HR_v0 := hide (HR_v0.out.mono (fun _ h => h) (fun b h => ho.block b (by have := h.2; omega) (fun hS => by have h1 := h.1; have h2 := h.2; have h3 := hS.1; have h4 := hS.2; omega)))
  have HB_w10 := hide (below_only (HB_w9).out ho (HB_w9).out.size (fun i hi => by have := hi.1; omega))
  have HK_g0 := hide hK; clear hK ho HH_g0 HR_g0
  go_wp2_with fail
  refine (heldInt_list R ks_ 1 A_g0 c_g0 w10 (New w3 w4) HRl.out (by omega) (by omega) HK_g0.out).mono ?_
  rintro e _ ⟨rfl, rfl⟩
  go_wp2_with fail
  refine (toCallS xs0 A0 c0 w10 hl0 (HA0.out.old (HB_w10).out)).mono ?_
  rintro e w11 ⟨v_z0, rfl, hO, hb⟩
  obtain ⟨A_z0, c_z0, rfl, hle, hcm, hR⟩ := hO.old
  have HR := hide hR; clear hR hO
  have HL_z0 := hide hle; have HC_z0 := hide hcm; clear hle hcm
  have hz_w11 : w10.heap.size ≤ w11.heap.size := hb.size
  have HR_v0 := hide (HR_v0.out.mono (fun _ h => h) (fun b h => hb.block b (by have := h.2; omega)))
  have HK_g0 := hide (HK_g0.out.keep (fun b h => hb.block b (by have := h.2; omega)))
  have HB_w11 := hide ((HB_w10).out.trans (hb.mono (HB_w10).out.size))
  have HR_z0 := hide HR.out; clear HR hb
  go_wp2_with fail
  have hc := implFindLinear xs0 A_z0 c_z0 w11 hm0 HR_z0.out (HT.out.below HT.out.lt (HB_w11).out) (Nat.lt_of_lt_of_le HT.out.lt (HB_w11).out.size)
  rw [HRe.out, HBe.out] at hc
  refine hc.mono ?_
  clear hc
  rintro e w12 ⟨v_h0, rfl, hF, hb⟩
  have HH0 := hide hF
  obtain ⟨A_h0, c_h0, rfl, _, _, hR⟩ := hF.sl
  have HR0 := hide hR; clear hR hF
  have hz_w12 : w11.heap.size ≤ w12.heap.size := hb.size
  have HR_v0 := hide (HR_v0.out.mono (fun _ h => h) (fun b h => hb.block b (by have := h.2; omega)))
  have HK_g0 := hide (HK_g0.out.keep (fun b h => hb.block b (by have := h.2; omega)))
  have HB_w12 := hide ((HB_w11).out.trans (hb.mono (HB_w11).out.size))
  have HR_z0 := hide (HR_z0.out.old hb)
  have HR_h0 := hide HR0.out; clear HR0 hb
  have HH_h0 := hide HH0.out; clear HH0
  go_wp2_with fail
  refine (eqIntS R A_h0 A_v0 c_h0 c_v0 w12 (by have := HRl.out; simp only [maxLen]; omega) (HR_h0.out.mono (S' := Old w12) (fun b h => by have := h.2; unfold Old; omega) (fun _ _ => rfl)) (HR_v0.out.mono (S' := Old w12) (fun b h => by have := h.2; unfold Old; omega) (fun _ _ => rfl))).mono ?_
  rintro e w13 ⟨rfl, hb⟩
  have hz_w13 : w12.heap.size ≤ w13.heap.size := hb.size
  have HR_v0 := hide (HR_v0.out.mono (fun _ h => h) (fun b h => hb.block b (by have := h.2; omega)))
  have HK_g0 := hide (HK_g0.out.keep (fun b h => hb.block b (by have := h.2; omega)))
  have HR_h0 := hide (HR_h0.out.mono (fun _ h => h) (fun b h => hb.block b (by have := h.2; omega)))
  have HH_h0 := hide (HH_h0.out.mono (fun _ h => h) (fun b h => hb.block b (by have := h.2; omega)))
  have HB_w13 := hide ((HB_w12).out.trans (hb.mono (HB_w12).out.size))
  clear hb
  go_wp2_with fail
  refine (heldInt_list R ks_ 1 A_g0 c_g0 w13 (New w3 w4) HRl.out (by omega) (by omega) HK_g0.out).mono ?_
  rintro e _ ⟨rfl, rfl⟩
  go_wp2_with fail
  go_ret
  exact ⟨rfl, (HB_w13).out⟩
end Go.Proofs.YtmlbfhknapkhgaaDoor
