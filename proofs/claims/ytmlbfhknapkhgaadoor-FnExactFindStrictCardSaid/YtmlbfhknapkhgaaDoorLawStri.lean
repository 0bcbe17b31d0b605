/- The law of FindStrict: the program answers as the reference does, for all arguments, in memory of its own.  -/
import Derived.Test.YtmlbfhknapkhgaaDoorStriS
import Derived.Test.YtmlbfhknapkhgaaDoorHoldsI
import Derived.Test.YtmlbfhknapkhgaaDoorMarkA
import Derived.Test.YtmlbfhknapkhgaaDoorMarkC
import Derived.Test.YtmlbfhknapkhgaaDoorTabOf
import Derived.Test.YtmlbfhknapkhgaaDoorToC
import Derived.Test.YtmlbfhknapkhgaaDoorEqC
import Derived.Test.YtmlbfhknapkhgaaDoorEqA
import Derived.Test.YtmlbfhknapkhgaaDoorSz
import Derived.Test.YtmlbfhknapkhgaaDoorSzC
import Derived.Test.YtmlbfhknapkhgaaDoorOpen
namespace Go.Proofs.YtmlbfhknapkhgaaDoor
open Go.RowKit
set_option linter.unusedVariables false

set_option maxRecDepth 10000 in
set_option maxHeartbeats 2000000 in
theorem lawStri (xs0 : List Txn) (A0 : Option Addr) (c0 : Nat) (xs1 : List Span) (A1 : Option Addr) (c1 : Nat) (w : World) (hm0 : xs0.length ≤ maxLen) (hA0 : Row tTxn w (Old w) A0 xs0) (hm1 : xs1.length ≤ maxLen) (hA1 : Row tSpan w (Old w) A1 xs1) (hT : TabDB w) :
    Calls Tryd.prog 3 #[.slice A0 xs0.length c0, .slice A1 xs1.length c1] w fun e w' => e = .returned (.bool true) ∧ Below w.heap.size w w' := by
  have HT := hide hT; clear hT
  have HA0 := hide hA0; clear hA0
  have HA1 := hide hA1; clear hA1
  have hq0 : xs0.length ≤ 9223372036854775807 := by simpa [maxLen] using hm0
  have hq1 : xs1.length ≤ 9223372036854775807 := by simpa [maxLen] using hm1
  go_enter Tryd.func3, Tryd.ntmps3
  go_wp2_with fail
  refine (szTxnS xs0 A0 c0 1048576 w hm0 (lens_Txn HA0.out) (by omega) (by omega) HA0.out).mono ?_
  rintro e w1 ⟨l0, rfl, hr, hb⟩
  have hz_w1 : w.heap.size ≤ w1.heap.size := hb.size
  have HB_w1 := hide ((Below.refl _ _).trans (hb.mono (Nat.le_refl _)))
  clear hb
  rcases hr with rfl | ⟨g0, k0⟩
  · go_wp2_with fail
    go_ret
    exact ⟨rfl, (HB_w1).out⟩
  have hl0 : xs0.length ≤ 1048576 := by omega
  have hs0 : tot (fun x : Txn => x.Ops.length) xs0 ≤ 1048576 := by omega
  have hlu0 : l0 ≤ 1048576 := by omega
  have K0 := hide k0; clear k0
  go_wp2_with fail
  refine (szSpanS xs1.length A1 c1 l0 w1 hm1 (by omega) (by omega)).mono ?_
  rintro e _ ⟨l1, rfl, hr, rfl⟩
  rcases hr with rfl | ⟨g1, k1⟩
  · go_wp2_with fail
    go_ret
    exact ⟨rfl, (HB_w1).out⟩
  have hl1 : xs1.length ≤ 1048576 := by omega
  have K1 := hide k1; clear k1
  have HRl0 := strR_len xs0 xs1
  obtain ⟨R, hRe⟩ : ∃ R, strR xs0 xs1 = R := ⟨_, rfl⟩
  obtain ⟨B, hBe⟩ : ∃ B, strBb xs0 xs1 = B := ⟨_, rfl⟩
  rw [hRe] at HRl0
  have HRl := hide HRl0
  have HRe := hide hRe; have HBe := hide hBe; clear hRe hBe HRl0
  go_wp2_with fail
  refine (toTxnS xs0 A0 c0 w1 hl0 (fun x hx => Nat.le_trans (tot_le (fun x : Txn => x.Ops.length) xs0 x hx) hs0) (HA0.out.old (HB_w1).out)).mono ?_
  rintro e w2 ⟨v_s0, rfl, hO, hb⟩
  obtain ⟨A_s0, c_s0, rfl, hle, hcm, hR⟩ := hO.weakTxn.old
  have HR := hide hR; clear hR hO
  have HL_s0 := hide hle; have HC_s0 := hide hcm; clear hle hcm
  have hz_w2 : w1.heap.size ≤ w2.heap.size := hb.size
  have HB_w2 := hide ((HB_w1).out.trans (hb.mono (HB_w1).out.size))
  have HR_s0 := hide HR.out; clear HR hb
  go_wp2_with fail
  refine (toSpanS xs1 A1 c1 w2 hl1 (HA1.out.old (HB_w2).out)).mono ?_
  rintro e w3 ⟨v_s1, rfl, hO, hb⟩
  obtain ⟨A_s1, c_s1, rfl, hle, hcm, hR⟩ := hO.old
  have HR := hide hR; clear hR hO
  have HL_s1 := hide hle; have HC_s1 := hide hcm; clear hle hcm
  have hz_w3 : w2.heap.size ≤ w3.heap.size := hb.size
  have HB_w3 := hide ((HB_w2).out.trans (hb.mono (HB_w2).out.size))
  have HR_s0 := hide (HR_s0.out.old hb)
  have HR_s1 := hide HR.out; clear HR hb
  go_wp2_with fail
  have hc := specFindStrict xs0 xs1 A_s0 A_s1 c_s0 c_s1 w3 hm0 hm1 hs0 HR_s0.out HR_s1.out
  rw [HRe.out, HBe.out] at hc
  refine hc.mono ?_
  clear hc
  rintro e w4 ⟨v_v0, rfl, hF, hb⟩
  obtain ⟨A_v0, c_v0, rfl, _, _, hR⟩ := hF
  have HR0 := hide hR; clear hR
  have hz_w4 : w3.heap.size ≤ w4.heap.size := hb.size
  have HB_w4 := hide ((HB_w3).out.trans (hb.mono (HB_w3).out.size))
  have HR_s0 := hide (HR_s0.out.old hb)
  have HR_s1 := hide (HR_s1.out.old hb)
  have HR_v0 := hide HR0.out; clear HR0 hb
  go_wp2_with fail
  refine (toTxnS xs0 A0 c0 w4 hl0 (fun x hx => Nat.le_trans (tot_le (fun x : Txn => x.Ops.length) xs0 x hx) hs0) (HA0.out.old (HB_w4).out)).mono ?_
  rintro e w5 ⟨v_x0, rfl, hO, hb⟩
  have HO0 := hide hO
  obtain ⟨A_x0, c_x0, rfl, hle, hcm, hR⟩ := hO.weakTxn.old
  have HR := hide hR; clear hR hO
  have HL_x0 := hide hle; have HC_x0 := hide hcm; clear hle hcm
  have hz_w5 : w4.heap.size ≤ w5.heap.size := hb.size
  have HR_v0 := hide (HR_v0.out.mono (fun _ h => h) (fun b h => hb.block b (by have := h.2; omega)))
  have HB_w5 := hide ((HB_w4).out.trans (hb.mono (HB_w4).out.size))
  have HR_x0 := hide HR.out; have HO_x0 := hide HO0.out; clear HR HO0 hb
  go_wp2_with fail
  refine (toSpanS xs1 A1 c1 w5 hl1 (HA1.out.old (HB_w5).out)).mono ?_
  rintro e w6 ⟨v_x1, rfl, hO, hb⟩
  have HO0 := hide hO
  obtain ⟨A_x1, c_x1, rfl, hle, hcm, hR⟩ := hO.old
  have HR := hide hR; clear hR hO
  have HL_x1 := hide hle; have HC_x1 := hide hcm; clear hle hcm
  have hz_w6 : w5.heap.size ≤ w6.heap.size := hb.size
  have HR_v0 := hide (HR_v0.out.mono (fun _ h => h) (fun b h => hb.block b (by have := h.2; omega)))
  have HO_x0 := hide (HO_x0.out.mono (fun _ h => h) (fun b h => hb.block b (by have := h.2; omega)))
  have HB_w6 := hide ((HB_w5).out.trans (hb.mono (HB_w5).out.size))
  have HR_x0 := hide (HR_x0.out.old hb)
  have HR_x1 := hide HR.out; have HO_x1 := hide HO0.out; clear HR HO0 hb
  go_wp2_with fail
  have hc := implFindStrict xs0 xs1 A_x0 A_x1 c_x0 c_x1 w6 hm0 hm1 (Nat.lt_of_lt_of_le HT.out.lt (HB_w6).out.size) (HT.out.below HT.out.lt (HB_w6).out) HR_x0.out HR_x1.out
  rw [HRe.out, HBe.out] at hc
  refine hc.mono ?_
  clear hc
  rintro e w7 ⟨v_g0, rfl, hF, hb⟩
  have HH0 := hide hF
  obtain ⟨A_g0, c_g0, rfl, _, _, hR⟩ := hF.sl
  have HR0 := hide hR; clear hR hF
  have hz_w7 : w6.heap.size ≤ w7.heap.size := hb.size
  have HR_v0 := hide (HR_v0.out.mono (fun _ h => h) (fun b h => hb.block b (by have := h.2; omega)))
  have HO_x0 := hide (HO_x0.out.mono (fun _ h => h) (fun b h => hb.block b (by have := h.2; omega)))
  have HO_x1 := hide (HO_x1.out.mono (fun _ h => h) (fun b h => hb.block b (by have := h.2; omega)))
  have HB_w7 := hide ((HB_w6).out.trans (hb.mono (HB_w6).out.size))
  have HR_x0 := hide (HR_x0.out.old hb)
  have HR_x1 := hide (HR_x1.out.old hb)
  have HR_g0 := hide HR0.out; clear HR0 hb
  have HH_g0 := hide HH0.out; clear HH0
  go_wp2_with fail
  refine (eqIntS R A_g0 A_v0 c_g0 c_v0 w7 (by have := HRl.out; simp only [maxLen]; omega) (HR_g0.out.mono (S' := Old w7) (fun b h => by have := h.2; unfold Old; omega) (fun _ _ => rfl)) (HR_v0.out.mono (S' := Old w7) (fun b h => by have := h.2; unfold Old; omega) (fun _ _ => rfl))).mono ?_
  rintro e w8 ⟨rfl, hb⟩
  have hz_w8 : w7.heap.size ≤ w8.heap.size := hb.size
  have HR_v0 := hide (HR_v0.out.mono (fun _ h => h) (fun b h => hb.block b (by have := h.2; omega)))
  have HO_x0 := hide (HO_x0.out.mono (fun _ h => h) (fun b h => hb.block b (by have := h.2; omega)))
  have HO_x1 := hide (HO_x1.out.mono (fun _ h => h) (fun b h => hb.block b (by have := h.2; omega)))
  have HR_g0 := hide (HR_g0.out.mono (fun _ h => h) (fun b h => hb.block b (by have := h.2; omega)))
  have HH_g0 := hide (HH_g0.out.mono (fun _ h => h) (fun b h => hb.block b (by have := h.2; omega)))
  have HB_w8 := hide ((HB_w7).out.trans (hb.mono (HB_w7).out.size))
  have HR_x0 := hide (HR_x0.out.old hb)
  have HR_x1 := hide (HR_x1.out.old hb)
  clear hb
  go_wp2_with fail
  refine (toTxnS xs0 A0 c0 w8 hl0 (fun x hx => Nat.le_trans (tot_le (fun x : Txn => x.Ops.length) xs0 x hx) hs0) (HA0.out.old (HB_w8).out)).mono ?_
  rintro e w9 ⟨v_y0, rfl, hO, hb⟩
  obtain ⟨A_y0, c_y0, rfl, hle, hcm, hR⟩ := hO.weakTxn.old
  have HR := hide hR; clear hR hO
  have HL_y0 := hide hle; have HC_y0 := hide hcm; clear hle hcm
  have hz_w9 : w8.heap.size ≤ w9.heap.size := hb.size
  have HR_v0 := hide (HR_v0.out.mono (fun _ h => h) (fun b h => hb.block b (by have := h.2; omega)))
  have HO_x0 := hide (HO_x0.out.mono (fun _ h => h) (fun b h => hb.block b (by have := h.2; omega)))
  have HO_x1 := hide (HO_x1.out.mono (fun _ h => h) (fun b h => hb.block b (by have := h.2; omega)))
  have HR_g0 := hide (HR_g0.out.mono (fun _ h => h) (fun b h => hb.block b (by have := h.2; omega)))
  have HH_g0 := hide (HH_g0.out.mono (fun _ h => h) (fun b h => hb.block b (by have := h.2; omega)))
  have HB_w9 := hide ((HB_w8).out.trans (hb.mono (HB_w8).out.size))
  have HR_x0 := hide (HR_x0.out.old hb)
  have HR_x1 := hide (HR_x1.out.old hb)
  have HR_y0 := hide HR.out; clear HR hb
  go_wp2_with fail
  refine (eqTxnS xs0 A_x0 A_y0 c_x0 c_y0 w9 hm0 (fun x hx => Nat.le_trans (tot_le (fun x : Txn => x.Ops.length) xs0 x hx) (Nat.le_trans hs0 (by simp [maxLen]))) HR_x0.out HR_y0.out).mono ?_
  rintro e w10 ⟨rfl, hb⟩
  have hz_w10 : w9.heap.size ≤ w10.heap.size := hb.size
  have HR_v0 := hide (HR_v0.out.mono (fun _ h => h) (fun b h => hb.block b (by have := h.2; omega)))
  have HO_x0 := hide (HO_x0.out.mono (fun _ h => h) (fun b h => hb.block b (by have := h.2; omega)))
  have HO_x1 := hide (HO_x1.out.mono (fun _ h => h) (fun b h => hb.block b (by have := h.2; omega)))
  have HR_g0 := hide (HR_g0.out.mono (fun _ h => h) (fun b h => hb.block b (by have := h.2; omega)))
  have HH_g0 := hide (HH_g0.out.mono (fun _ h => h) (fun b h => hb.block b (by have := h.2; omega)))
  have HB_w10 := hide ((HB_w9).out.trans (hb.mono (HB_w9).out.size))
  have HR_x0 := hide (HR_x0.out.old hb)
  have HR_x1 := hide (HR_x1.out.old hb)
  have HR_y0 := hide (HR_y0.out.old hb)
  clear hb
  go_wp2_with fail
  refine (toSpanS xs1 A1 c1 w10 hl1 (HA1.out.old (HB_w10).out)).mono ?_
  rintro e w11 ⟨v_y1, rfl, hO, hb⟩
  obtain ⟨A_y1, c_y1, rfl, hle, hcm, hR⟩ := hO.old
  have HR := hide hR; clear hR hO
  have HL_y1 := hide hle; have HC_y1 := hide hcm; clear hle hcm
  have hz_w11 : w10.heap.size ≤ w11.heap.size := hb.size
  have HR_v0 := hide (HR_v0.out.mono (fun _ h => h) (fun b h => hb.block b (by have := h.2; omega)))
  have HO_x0 := hide (HO_x0.out.mono (fun _ h => h) (fun b h => hb.block b (by have := h.2; omega)))
  have HO_x1 := hide (HO_x1.out.mono (fun _ h => h) (fun b h => hb.block b (by have := h.2; omega)))
  have HR_g0 := hide (HR_g0.out.mono (fun _ h => h) (fun b h => hb.block b (by have := h.2; omega)))
  have HH_g0 := hide (HH_g0.out.mono (fun _ h => h) (fun b h => hb.block b (by have := h.2; omega)))
  have HB_w11 := hide ((HB_w10).out.trans (hb.mono (HB_w10).out.size))
  have HR_x0 := hide (HR_x0.out.old hb)
  have HR_x1 := hide (HR_x1.out.old hb)
  have HR_y1 := hide HR.out; clear HR hb
  go_wp2_with fail
  refine (eqSpanS xs1 A_x1 A_y1 c_x1 c_y1 w11 hm1 HR_x1.out HR_y1.out).mono ?_
  rintro e w12 ⟨rfl, hb⟩
  have hz_w12 : w11.heap.size ≤ w12.heap.size := hb.size
  have HR_v0 := hide (HR_v0.out.mono (fun _ h => h) (fun b h => hb.block b (by have := h.2; omega)))
  have HO_x0 := hide (HO_x0.out.mono (fun _ h => h) (fun b h => hb.block b (by have := h.2; omega)))
  have HO_x1 := hide (HO_x1.out.mono (fun _ h => h) (fun b h => hb.block b (by have := h.2; omega)))
  have HR_g0 := hide (HR_g0.out.mono (fun _ h => h) (fun b h => hb.block b (by have := h.2; omega)))
  have HH_g0 := hide (HH_g0.out.mono (fun _ h => h) (fun b h => hb.block b (by have := h.2; omega)))
  have HB_w12 := hide ((HB_w11).out.trans (hb.mono (HB_w11).out.size))
  have HR_x0 := hide (HR_x0.out.old hb)
  have HR_x1 := hide (HR_x1.out.old hb)
  have HR_y1 := hide (HR_y1.out.old hb)
  clear hb
  go_wp2_with fail
  refine (markTxnS_arg2 xs0 1 A_x0 c_x0 w12 (New w4 w5) hl0 (fun x hx => Nat.le_trans (tot_le (fun x : Txn => x.Ops.length) xs0 x hx) hs0) rfl HO_x0.out).mono ?_
  rintro e w13 ⟨⟨rk, rfl, hrk, hrk1⟩, ho⟩
  have hz_w13 : w12.heap.size ≤ w13.heap.size := ho.size
  have HR_v0 := hide (HR_v0.out.mono (fun _ h => h) (fun b h => ho.block b (by have := h.2; omega) (fun hS => by have h1 := h.1; have h2 := h.2; have h3 := hS.1; have h4 := hS.2; omega)))
  have HO_x1 := hide (HO_x1.out.mono (fun _ h => h) (fun b h => ho.block b (by have := h.2; omega) (fun hS => by have h1 := h.1; have h2 := h.2; have h3 := hS.1; have h4 := hS.2; omega)))
  have HR_g0 := hide (HR_g0.out.mono (fun _ h => h) (fun b h => ho.block b (by have := h.2; omega) (fun hS => by have h1 := h.1; have h2 := h.2; have h3 := hS.1; have h4 := hS.2; omega)))
  have HH_g0 := hide (HH_g0.out.mono (fun _ h => h) (fun b h => ho.block b (by have := h.2; omega) (fun hS => by have h1 := h.1; have h2 := h.2; have h3 := hS.1; have h4 := hS.2; omega)))
  have HB_w13 := hide (below_only (HB_w12).out ho (HB_w12).out.size (fun i hi => by have := hi.1; omega))
  clear ho
  go_wp2_with fail
  refine (markSpanS_arg xs1 rk A_x1 c_x1 w13 (New w5 w6) hl1 ⟨hrk, hrk1⟩ HO_x1.out).mono ?_
  rintro e w14 ⟨⟨rk, rfl, hrk⟩, ho⟩
  have hz_w14 : w13.heap.size ≤ w14.heap.size := ho.size
  have HR_v0 := hide (HR_v0.out.mono (fun _ h => h) (fun b h => ho.block b (by have := h.2; omega) (fun hS => by have h1 := h.1; have h2 := h.2; have h3 := hS.1; have h4 := hS.2; omega)))
  have HR_g0 := hide (HR_g0.out.mono (fun _ h => h) (fun b h => ho.block b (by have := h.2; omega) (fun hS => by have h1 := h.1; have h2 := h.2; have h3 := hS.1; have h4 := hS.2; omega)))
  have HH_g0 := hide (HH_g0.out.mono (fun _ h => h) (fun b h => ho.block b (by have := h.2; omega) (fun hS => by have h1 := h.1; have h2 := h.2; have h3 := hS.1; have h4 := hS.2; omega)))
  have HB_w14 := hide (below_only (HB_w13).out ho (HB_w13).out.size (fun i hi => by have := hi.1; omega))
  clear ho
  go_wp2_with fail
  refine (eqIntS R A_g0 A_v0 c_g0 c_v0 w14 (by have := HRl.out; simp only [maxLen]; omega) (HR_g0.out.mono (S' := Old w14) (fun b h => by have := h.2; unfold Old; omega) (fun _ _ => rfl)) (HR_v0.out.mono (S' := Old w14) (fun b h => by have := h.2; unfold Old; omega) (fun _ _ => rfl))).mono ?_
  rintro e w15 ⟨rfl, hb⟩
  have hz_w15 : w14.heap.size ≤ w15.heap.size := hb.size
  have HR_v0 := hide (HR_v0.out.mono (fun _ h => h) (fun b h => hb.block b (by have := h.2; omega)))
  have HR_g0 := hide (HR_g0.out.mono (fun _ h => h) (fun b h => hb.block b (by have := h.2; omega)))
  have HH_g0 := hide (HH_g0.out.mono (fun _ h => h) (fun b h => hb.block b (by have := h.2; omega)))
  have HB_w15 := hide ((HB_w14).out.trans (hb.mono (HB_w14).out.size))
  clear hb
  go_wp2_with fail
  refine (markInt_hold R 1 A_g0 c_g0 w15 (New w6 w7) HRl.out (by omega) (by omega) HH_g0.out).mono ?_
  rintro e w16 ⟨ks_, rfl, ho, hK⟩
  have hz_w16 : w15.heap.size ≤ w16.heap.size := ho.size
  have HR_v0 := hide (HR_v0.out.mono (fun _ h => h) (fun b h => ho.block b (by have := h.2; omega) (fun hS => by have h1 := h.1; have h2 := h.2; have h3 := hS.1; have h4 := hS.2; omega)))
  have HB_w16 := hide (below_only (HB_w15).out ho (HB_w15).out.size (fun i hi => by have := hi.1; omega))
  have HK_g0 := hide hK; clear hK ho HH_g0 HR_g0
  go_wp2_with fail
  refine (heldInt_list R ks_ 1 A_g0 c_g0 w16 (New w6 w7) HRl.out (by omega) (by omega) HK_g0.out).mono ?_
  rintro e _ ⟨rfl, rfl⟩
  go_wp2_with fail
  refine (toTxnS xs0 A0 c0 w16 hl0 (fun x hx => Nat.le_trans (tot_le (fun x : Txn => x.Ops.length) xs0 x hx) hs0) (HA0.out.old (HB_w16).out)).mono ?_
  rintro e w17 ⟨v_z0, rfl, hO, hb⟩
  obtain ⟨A_z0, c_z0, rfl, hle, hcm, hR⟩ := hO.weakTxn.old
  have HR := hide hR; clear hR hO
  have HL_z0 := hide hle; have HC_z0 := hide hcm; clear hle hcm
  have hz_w17 : w16.heap.size ≤ w17.heap.size := hb.size
  have HR_v0 := hide (HR_v0.out.mono (fun _ h => h) (fun b h => hb.block b (by have := h.2; omega)))
  have HK_g0 := hide (HK_g0.out.keep (fun b h => hb.block b (by have := h.2; omega)))
  have HB_w17 := hide ((HB_w16).out.trans (hb.mono (HB_w16).out.size))
  have HR_z0 := hide HR.out; clear HR hb
  go_wp2_with fail
  refine (toSpanS xs1 A1 c1 w17 hl1 (HA1.out.old (HB_w17).out)).mono ?_
  rintro e w18 ⟨v_z1, rfl, hO, hb⟩
  obtain ⟨A_z1, c_z1, rfl, hle, hcm, hR⟩ := hO.old
  have HR := hide hR; clear hR hO
  have HL_z1 := hide hle; have HC_z1 := hide hcm; clear hle hcm
  have hz_w18 : w17.heap.size ≤ w18.heap.size := hb.size
  have HR_v0 := hide (HR_v0.out.mono (fun _ h => h) (fun b h => hb.block b (by have := h.2; omega)))
  have HK_g0 := hide (HK_g0.out.keep (fun b h => hb.block b (by have := h.2; omega)))
  have HB_w18 := hide ((HB_w17).out.trans (hb.mono (HB_w17).out.size))
  have HR_z0 := hide (HR_z0.out.old hb)
  have HR_z1 := hide HR.out; clear HR hb
  go_wp2_with fail
  have hc := implFindStrict xs0 xs1 A_z0 A_z1 c_z0 c_z1 w18 hm0 hm1 (Nat.lt_of_lt_of_le HT.out.lt (HB_w18).out.size) (HT.out.below HT.out.lt (HB_w18).out) HR_z0.out HR_z1.out
  rw [HRe.out, HBe.out] at hc
  refine hc.mono ?_
  clear hc
  rintro e w19 ⟨v_h0, rfl, hF, hb⟩
  have HH0 := hide hF
  obtain ⟨A_h0, c_h0, rfl, _, _, hR⟩ := hF.sl
  have HR0 := hide hR; clear hR hF
  have hz_w19 : w18.heap.size ≤ w19.heap.size := hb.size
  have HR_v0 := hide (HR_v0.out.mono (fun _ h => h) (fun b h => hb.block b (by have := h.2; omega)))
  have HK_g0 := hide (HK_g0.out.keep (fun b h => hb.block b (by have := h.2; omega)))
  have HB_w19 := hide ((HB_w18).out.trans (hb.mono (HB_w18).out.size))
  have HR_z0 := hide (HR_z0.out.old hb)
  have HR_z1 := hide (HR_z1.out.old hb)
  have HR_h0 := hide HR0.out; clear HR0 hb
  have HH_h0 := hide HH0.out; clear HH0
  go_wp2_with fail
  refine (eqIntS R A_h0 A_v0 c_h0 c_v0 w19 (by have := HRl.out; simp only [maxLen]; omega) (HR_h0.out.mono (S' := Old w19) (fun b h => by have := h.2; unfold Old; omega) (fun _ _ => rfl)) (HR_v0.out.mono (S' := Old w19) (fun b h => by have := h.2; unfold Old; omega) (fun _ _ => rfl))).mono ?_
  rintro e w20 ⟨rfl, hb⟩
  have hz_w20 : w19.heap.size ≤ w20.heap.size := hb.size
  have HR_v0 := hide (HR_v0.out.mono (fun _ h => h) (fun b h => hb.block b (by have := h.2; omega)))
  have HK_g0 := hide (HK_g0.out.keep (fun b h => hb.block b (by have := h.2; omega)))
  have HR_h0 := hide (HR_h0.out.mono (fun _ h => h) (fun b h => hb.block b (by have := h.2; omega)))
  have HH_h0 := hide (HH_h0.out.mono (fun _ h => h) (fun b h => hb.block b (by have := h.2; omega)))
  have HB_w20 := hide ((HB_w19).out.trans (hb.mono (HB_w19).out.size))
  clear hb
  go_wp2_with fail
  refine (heldInt_list R ks_ 1 A_g0 c_g0 w20 (New w6 w7) HRl.out (by omega) (by omega) HK_g0.out).mono ?_
  rintro e _ ⟨rfl, rfl⟩
  go_wp2_with fail
  go_ret
  exact ⟨rfl, (HB_w20).out⟩
end Go.Proofs.YtmlbfhknapkhgaaDoor
