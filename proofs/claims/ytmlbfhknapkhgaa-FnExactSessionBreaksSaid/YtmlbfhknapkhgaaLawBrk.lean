/- The law of SessionBreaks: the program answers as the reference does, for all arguments, in memory of its own.  -/
import Derived.Test.YtmlbfhknapkhgaaBrkS
import Derived.Test.YtmlbfhknapkhgaaMarkB
import Derived.Test.YtmlbfhknapkhgaaToA
import Derived.Test.YtmlbfhknapkhgaaToC
import Derived.Test.YtmlbfhknapkhgaaEqA
import Derived.Test.YtmlbfhknapkhgaaEqB
import Derived.Test.YtmlbfhknapkhgaaEqC
import Derived.Test.YtmlbfhknapkhgaaSz
import Derived.Test.YtmlbfhknapkhgaaSzC
import Derived.Test.YtmlbfhknapkhgaaOpen
namespace Go.Proofs.Ytmlbfhknapkhgaa
open Go.RowKit
set_option linter.unusedVariables false

set_option maxRecDepth 10000 in
set_option maxHeartbeats 2000000 in
theorem lawBrk (xs0 : List Txn) (A0 : Option Addr) (c0 : Nat) (xs1 : List (List Int)) (A1 : Option Addr) (c1 : Nat) (a2 : Int) (w : World) (hm0 : xs0.length ≤ maxLen) (hA0 : Row tTxn w (Old w) A0 xs0) (hm1 : xs1.length ≤ maxLen) (hA1 : Row (tSlice tInt) w (Old w) A1 xs1) :
    Calls Try.prog 11 #[.slice A0 xs0.length c0, .slice A1 xs1.length c1, .int .i64 a2] w fun e w' => e = .returned (.bool true) ∧ Below w.heap.size w w' := by
  have HA0 := hide hA0; clear hA0
  have HA1 := hide hA1; clear hA1
  have hq0 : xs0.length ≤ 9223372036854775807 := by simpa [maxLen] using hm0
  have hq1 : xs1.length ≤ 9223372036854775807 := by simpa [maxLen] using hm1
  go_enter Try.func11, Try.ntmps11
  go_wp2_with fail
  refine (szTxnS xs0 A0 c0 1048576 w hm0 (lens_Txn HA0.out) (by omega) (by omega) HA0.out).mono ?_
  rintro e w1 ⟨l0, rfl, hr, hb⟩
  have hz_w1 : w.heap.size ≤ w1.heap.size := hb.size
  have HB_w1 := hide ((Below.refl _ _).trans (hb.mono (Nat.le_refl _)))
  clear hb
  rcases hr with rfl | ⟨g0, k0⟩
  · go_wp2_with fail
    go_ret
    exact ⟨rfl, (HB_w1).out⟩
  have hl0 : xs0.length ≤ 1048576 := by omega
  have hs0 : tot (fun x : Txn => x.Ops.length) xs0 ≤ 1048576 := by omega
  have hlu0 : l0 ≤ 1048576 := by omega
  have K0 := hide k0; clear k0
  go_wp2_with fail
  refine (szIntSS xs1 A1 c1 l0 w1 hm1 (lens_IntS HA1.out) (by omega) (by omega) (HA1.out.old (HB_w1).out)).mono ?_
  rintro e w2 ⟨l1, rfl, hr, hb⟩
  have hz_w2 : w1.heap.size ≤ w2.heap.size := hb.size
  have HB_w2 := hide ((HB_w1).out.trans (hb.mono (HB_w1).out.size))
  clear hb
  rcases hr with rfl | ⟨g1, k1⟩
  · go_wp2_with fail
    go_ret
    exact ⟨rfl, (HB_w2).out⟩
  have hl1 : xs1.length ≤ 1048576 := by omega
  have hs1 : tot (List.length) xs1 ≤ 1048576 := by omega
  have hlu1 : l1 ≤ 1048576 := by omega
  have K1 := hide k1; clear k1
  have HRl0 := brkR_len xs0 xs1 a2
  obtain ⟨R, hRe⟩ : ∃ R, brkR xs0 xs1 a2 = R := ⟨_, rfl⟩
  rw [hRe] at HRl0
  have HRl := hide HRl0.1; have HRn := hide HRl0.2
  have HRe := hide hRe; clear hRe HRl0
  go_wp2_with fail
  refine (toTxnS xs0 A0 c0 w2 hl0 (fun x hx => Nat.le_trans (tot_le (fun x : Txn => x.Ops.length) xs0 x hx) hs0) (HA0.out.old (HB_w2).out)).mono ?_
  rintro e w3 ⟨v_s0, rfl, hO, hb⟩
  obtain ⟨A_s0, c_s0, rfl, hle, hcm, hR⟩ := hO.weakTxn.old
  have HR := hide hR; clear hR hO
  have HL_s0 := hide hle; have HC_s0 := hide hcm; clear hle hcm
  have hz_w3 : w2.heap.size ≤ w3.heap.size := hb.size
  have HB_w3 := hide ((HB_w2).out.trans (hb.mono (HB_w2).out.size))
  have HR_s0 := hide HR.out; clear HR hb
  go_wp2_with fail
  refine (toIntSS xs1 A1 c1 w3 hl1 (fun x hx => Nat.le_trans (tot_le (List.length) xs1 x hx) hs1) (HA1.out.old (HB_w3).out)).mono ?_
  rintro e w4 ⟨v_s1, rfl, hO, hb⟩
  obtain ⟨A_s1, c_s1, rfl, hle, hcm, hR⟩ := hO.weakIntS.old
  have HR := hide hR; clear hR hO
  have HL_s1 := hide hle; have HC_s1 := hide hcm; clear hle hcm
  have hz_w4 : w3.heap.size ≤ w4.heap.size := hb.size
  have HB_w4 := hide ((HB_w3).out.trans (hb.mono (HB_w3).out.size))
  have HR_s0 := hide (HR_s0.out.old hb)
  have HR_s1 := hide HR.out; clear HR hb
  go_wp2_with fail
  have hc := specSessionBreaks xs0 xs1 a2 A_s0 A_s1 c_s0 c_s1 w4 hl0 (fun x hx => Nat.le_trans (tot_le (fun x : Txn => x.Ops.length) xs0 x hx) hs0) hs0 hl1 (fun x hx => Nat.le_trans (tot_le (fun x : List Int => x.length) xs1 x hx) hs1) HR_s0.out HR_s1.out
  rw [HRe.out] at hc
  refine hc.mono ?_
  clear hc
  rintro e w5 ⟨v_v0, rfl, hF, hb⟩
  obtain ⟨A_v0, c_v0, rfl, _, _, hR⟩ := hF
  have HR0 := hide hR; clear hR
  have hz_w5 : w4.heap.size ≤ w5.heap.size := hb.size
  have HB_w5 := hide ((HB_w4).out.trans (hb.mono (HB_w4).out.size))
  have HR_s0 := hide (HR_s0.out.old hb)
  have HR_s1 := hide (HR_s1.out.old hb)
  have HR_v0 := hide HR0.out; clear HR0 hb
  go_wp2_with fail
  refine (toTxnS xs0 A0 c0 w5 hl0 (fun x hx => Nat.le_trans (tot_le (fun x : Txn => x.Ops.length) xs0 x hx) hs0) (HA0.out.old (HB_w5).out)).mono ?_
  rintro e w6 ⟨v_x0, rfl, hO, hb⟩
  have HO0 := hide hO
  obtain ⟨A_x0, c_x0, rfl, hle, hcm, hR⟩ := hO.weakTxn.old
  have HR := hide hR; clear hR hO
  have HL_x0 := hide hle; have HC_x0 := hide hcm; clear hle hcm
  have hz_w6 : w5.heap.size ≤ w6.heap.size := hb.size
  have HR_v0 := hide (HR_v0.out.mono (fun _ h => h) (fun b h => hb.block b (by have := h.2; omega)))
  have HB_w6 := hide ((HB_w5).out.trans (hb.mono (HB_w5).out.size))
  have HR_x0 := hide HR.out; have HO_x0 := hide HO0.out; clear HR HO0 hb
  go_wp2_with fail
  refine (toIntSS xs1 A1 c1 w6 hl1 (fun x hx => Nat.le_trans (tot_le (List.length) xs1 x hx) hs1) (HA1.out.old (HB_w6).out)).mono ?_
  rintro e w7 ⟨v_x1, rfl, hO, hb⟩
  have HO0 := hide hO
  obtain ⟨A_x1, c_x1, rfl, hle, hcm, hR⟩ := hO.weakIntS.old
  have HR := hide hR; clear hR hO
  have HL_x1 := hide hle; have HC_x1 := hide hcm; clear hle hcm
  have hz_w7 : w6.heap.size ≤ w7.heap.size := hb.size
  have HR_v0 := hide (HR_v0.out.mono (fun _ h => h) (fun b h => hb.block b (by have := h.2; omega)))
  have HO_x0 := hide (HO_x0.out.mono (fun _ h => h) (fun b h => hb.block b (by have := h.2; omega)))
  have HB_w7 := hide ((HB_w6).out.trans (hb.mono (HB_w6).out.size))
  have HR_x0 := hide (HR_x0.out.old hb)
  have HR_x1 := hide HR.out; have HO_x1 := hide HO0.out; clear HR HO0 hb
  go_wp2_with fail
  have hc := implSessionBreaks xs0 xs1 a2 A_x0 A_x1 c_x0 c_x1 w7 hm0 hl1 (fun x hx => Nat.le_trans (tot_le (fun x : List Int => x.length) xs1 x hx) hs1) HR_x0.out HR_x1.out
  rw [HRe.out] at hc
  refine hc.mono ?_
  clear hc
  rintro e w8 ⟨v_g0, rfl, hF, hb⟩
  have HH0 := hide hF
  obtain ⟨A_g0, c_g0, rfl, _, _, hR⟩ := hF.sl
  have HR0 := hide hR; clear hR hF
  have hz_w8 : w7.heap.size ≤ w8.heap.size := hb.size
  have HR_v0 := hide (HR_v0.out.mono (fun _ h => h) (fun b h => hb.block b (by have := h.2; omega)))
  have HO_x0 := hide (HO_x0.out.mono (fun _ h => h) (fun b h => hb.block b (by have := h.2; omega)))
  have HO_x1 := hide (HO_x1.out.mono (fun _ h => h) (fun b h => hb.block b (by have := h.2; omega)))
  have HB_w8 := hide ((HB_w7).out.trans (hb.mono (HB_w7).out.size))
  have HR_x0 := hide (HR_x0.out.old hb)
  have HR_x1 := hide (HR_x1.out.old hb)
  have HR_g0 := hide HR0.out; clear HR0 hb
  have HH_g0 := hide HH0.out; clear HH0
  go_wp2_with fail
  refine (eqIntSS R A_g0 A_v0 c_g0 c_v0 w8 (by have := HRl.out; simp only [maxLen]; omega) (fun x hx => by have := HRn.out x hx; simp only [maxLen]; omega) (HR_g0.out.mono (S' := Old w8) (fun b h => by have := h.2; unfold Old; omega) (fun _ _ => rfl)) (HR_v0.out.mono (S' := Old w8) (fun b h => by have := h.2; unfold Old; omega) (fun _ _ => rfl))).mono ?_
  rintro e w9 ⟨rfl, hb⟩
  have hz_w9 : w8.heap.size ≤ w9.heap.size := hb.size
  have HR_v0 := hide (HR_v0.out.mono (fun _ h => h) (fun b h => hb.block b (by have := h.2; omega)))
  have HO_x0 := hide (HO_x0.out.mono (fun _ h => h) (fun b h => hb.block b (by have := h.2; omega)))
  have HO_x1 := hide (HO_x1.out.mono (fun _ h => h) (fun b h => hb.block b (by have := h.2; omega)))
  have HR_g0 := hide (HR_g0.out.mono (fun _ h => h) (fun b h => hb.block b (by have := h.2; omega)))
  have HH_g0 := hide (HH_g0.out.mono (fun _ h => h) (fun b h => hb.block b (by have := h.2; omega)))
  have HB_w9 := hide ((HB_w8).out.trans (hb.mono (HB_w8).out.size))
  have HR_x0 := hide (HR_x0.out.old hb)
  have HR_x1 := hide (HR_x1.out.old hb)
  clear hb
  go_wp2_with fail
  refine (toTxnS xs0 A0 c0 w9 hl0 (fun x hx => Nat.le_trans (tot_le (fun x : Txn => x.Ops.length) xs0 x hx) hs0) (HA0.out.old (HB_w9).out)).mono ?_
  rintro e w10 ⟨v_y0, rfl, hO, hb⟩
  obtain ⟨A_y0, c_y0, rfl, hle, hcm, hR⟩ := hO.weakTxn.old
  have HR := hide hR; clear hR hO
  have HL_y0 := hide hle; have HC_y0 := hide hcm; clear hle hcm
  have hz_w10 : w9.heap.size ≤ w10.heap.size := hb.size
  have HR_v0 := hide (HR_v0.out.mono (fun _ h => h) (fun b h => hb.block b (by have := h.2; omega)))
  have HO_x0 := hide (HO_x0.out.mono (fun _ h => h) (fun b h => hb.block b (by have := h.2; omega)))
  have HO_x1 := hide (HO_x1.out.mono (fun _ h => h) (fun b h => hb.block b (by have := h.2; omega)))
  have HR_g0 := hide (HR_g0.out.mono (fun _ h => h) (fun b h => hb.block b (by have := h.2; omega)))
  have HH_g0 := hide (HH_g0.out.mono (fun _ h => h) (fun b h => hb.block b (by have := h.2; omega)))
  have HB_w10 := hide ((HB_w9).out.trans (hb.mono (HB_w9).out.size))
  have HR_x0 := hide (HR_x0.out.old hb)
  have HR_x1 := hide (HR_x1.out.old hb)
  have HR_y0 := hide HR.out; clear HR hb
  go_wp2_with fail
  refine (eqTxnS xs0 A_x0 A_y0 c_x0 c_y0 w10 hm0 (fun x hx => Nat.le_trans (tot_le (fun x : Txn => x.Ops.length) xs0 x hx) (Nat.le_trans hs0 (by simp [maxLen]))) HR_x0.out HR_y0.out).mono ?_
  rintro e w11 ⟨rfl, hb⟩
  have hz_w11 : w10.heap.size ≤ w11.heap.size := hb.size
  have HR_v0 := hide (HR_v0.out.mono (fun _ h => h) (fun b h => hb.block b (by have := h.2; omega)))
  have HO_x0 := hide (HO_x0.out.mono (fun _ h => h) (fun b h => hb.block b (by have := h.2; omega)))
  have HO_x1 := hide (HO_x1.out.mono (fun _ h => h) (fun b h => hb.block b (by have := h.2; omega)))
  have HR_g0 := hide (HR_g0.out.mono (fun _ h => h) (fun b h => hb.block b (by have := h.2; omega)))
  have HH_g0 := hide (HH_g0.out.mono (fun _ h => h) (fun b h => hb.block b (by have := h.2; omega)))
  have HB_w11 := hide ((HB_w10).out.trans (hb.mono (HB_w10).out.size))
  have HR_x0 := hide (HR_x0.out.old hb)
  have HR_x1 := hide (HR_x1.out.old hb)
  have HR_y0 := hide (HR_y0.out.old hb)
  clear hb
  go_wp2_with fail
  refine (toIntSS xs1 A1 c1 w11 hl1 (fun x hx => Nat.le_trans (tot_le (List.length) xs1 x hx) hs1) (HA1.out.old (HB_w11).out)).mono ?_
  rintro e w12 ⟨v_y1, rfl, hO, hb⟩
  obtain ⟨A_y1, c_y1, rfl, hle, hcm, hR⟩ := hO.weakIntS.old
  have HR := hide hR; clear hR hO
  have HL_y1 := hide hle; have HC_y1 := hide hcm; clear hle hcm
  have hz_w12 : w11.heap.size ≤ w12.heap.size := hb.size
  have HR_v0 := hide (HR_v0.out.mono (fun _ h => h) (fun b h => hb.block b (by have := h.2; omega)))
  have HO_x0 := hide (HO_x0.out.mono (fun _ h => h) (fun b h => hb.block b (by have := h.2; omega)))
  have HO_x1 := hide (HO_x1.out.mono (fun _ h => h) (fun b h => hb.block b (by have := h.2; omega)))
  have HR_g0 := hide (HR_g0.out.mono (fun _ h => h) (fun b h => hb.block b (by have := h.2; omega)))
  have HH_g0 := hide (HH_g0.out.mono (fun _ h => h) (fun b h => hb.block b (by have := h.2; omega)))
  have HB_w12 := hide ((HB_w11).out.trans (hb.mono (HB_w11).out.size))
  have HR_x0 := hide (HR_x0.out.old hb)
  have HR_x1 := hide (HR_x1.out.old hb)
  have HR_y1 := hide HR.out; clear HR hb
  go_wp2_with fail
  refine (eqIntSS xs1 A_x1 A_y1 c_x1 c_y1 w12 hm1 (fun x hx => Nat.le_trans (tot_le (List.length) xs1 x hx) (Nat.le_trans hs1 (by simp [maxLen]))) HR_x1.out HR_y1.out).mono ?_
  rintro e w13 ⟨rfl, hb⟩
  have hz_w13 : w12.heap.size ≤ w13.heap.size := hb.size
  have HR_v0 := hide (HR_v0.out.mono (fun _ h => h) (fun b h => hb.block b (by have := h.2; omega)))
  have HO_x0 := hide (HO_x0.out.mono (fun _ h => h) (fun b h => hb.block b (by have := h.2; omega)))
  have HO_x1 := hide (HO_x1.out.mono (fun _ h => h) (fun b h => hb.block b (by have := h.2; omega)))
  have HR_g0 := hide (HR_g0.out.mono (fun _ h => h) (fun b h => hb.block b (by have := h.2; omega)))
  have HH_g0 := hide (HH_g0.out.mono (fun _ h => h) (fun b h => hb.block b (by have := h.2; omega)))
  have HB_w13 := hide ((HB_w12).out.trans (hb.mono (HB_w12).out.size))
  have HR_x0 := hide (HR_x0.out.old hb)
  have HR_x1 := hide (HR_x1.out.old hb)
  have HR_y1 := hide (HR_y1.out.old hb)
  clear hb
  go_wp2_with fail
  refine (markTxnS_arg3 xs0 1 A_x0 c_x0 w13 (New w5 w6) hl0 (fun x hx => Nat.le_trans (tot_le (fun x : Txn => x.Ops.length) xs0 x hx) hs0) rfl HO_x0.out).mono ?_
  rintro e w14 ⟨⟨rk, rfl, hrk, hrk1⟩, ho⟩
  have hz_w14 : w13.heap.size ≤ w14.heap.size := ho.size
  have HR_v0 := hide (HR_v0.out.mono (fun _ h => h) (fun b h => ho.block b (by have := h.2; omega) (fun hS => by have h1 := h.1; have h2 := h.2; have h3 := hS.1; have h4 := hS.2; omega)))
  have HO_x1 := hide (HO_x1.out.mono (fun _ h => h) (fun b h => ho.block b (by have := h.2; omega) (fun hS => by have h1 := h.1; have h2 := h.2; have h3 := hS.1; have h4 := hS.2; omega)))
  have HR_g0 := hide (HR_g0.out.mono (fun _ h => h) (fun b h => ho.block b (by have := h.2; omega) (fun hS => by have h1 := h.1; have h2 := h.2; have h3 := hS.1; have h4 := hS.2; omega)))
  have HH_g0 := hide (HH_g0.out.mono (fun _ h => h) (fun b h => ho.block b (by have := h.2; omega) (fun hS => by have h1 := h.1; have h2 := h.2; have h3 := hS.1; have h4 := hS.2; omega)))
  have HB_w14 := hide (below_only (HB_w13).out ho (HB_w13).out.size (fun i hi => by have := hi.1; omega))
  clear ho
  go_wp2_with fail
  refine (markIntSS_arg xs1 rk A_x1 c_x1 w14 (New w6 w7) hl1 (fun x hx => Nat.le_trans (tot_le (List.length) xs1 x hx) hs1) ⟨hrk, hrk1⟩ HO_x1.out).mono ?_
  rintro e w15 ⟨⟨rk, rfl, hrk⟩, ho⟩
  have hz_w15 : w14.heap.size ≤ w15.heap.size := ho.size
  have HR_v0 := hide (HR_v0.out.mono (fun _ h => h) (fun b h => ho.block b (by have := h.2; omega) (fun hS => by have h1 := h.1; have h2 := h.2; have h3 := hS.1; have h4 := hS.2; omega)))
  have HR_g0 := hide (HR_g0.out.mono (fun _ h => h) (fun b h => ho.block b (by have := h.2; omega) (fun hS => by have h1 := h.1; have h2 := h.2; have h3 := hS.1; have h4 := hS.2; omega)))
  have HH_g0 := hide (HH_g0.out.mono (fun _ h => h) (fun b h => ho.block b (by have := h.2; omega) (fun hS => by have h1 := h.1; have h2 := h.2; have h3 := hS.1; have h4 := hS.2; omega)))
  have HB_w15 := hide (below_only (HB_w14).out ho (HB_w14).out.size (fun i hi => by have := hi.1; omega))
  clear ho
  go_wp2_with fail
  refine (eqIntSS R A_g0 A_v0 c_g0 c_v0 w15 (by have := HRl.out; simp only [maxLen]; omega) (fun x hx => by have := HRn.out x hx; simp only [maxLen]; omega) (HR_g0.out.mono (S' := Old w15) (fun b h => by have := h.2; unfold Old; omega) (fun _ _ => rfl)) (HR_v0.out.mono (S' := Old w15) (fun b h => by have := h.2; unfold Old; omega) (fun _ _ => rfl))).mono ?_
  rintro e w16 ⟨rfl, hb⟩
  have hz_w16 : w15.heap.size ≤ w16.heap.size := hb.size
  have HR_v0 := hide (HR_v0.out.mono (fun _ h => h) (fun b h => hb.block b (by have := h.2; omega)))
  have HR_g0 := hide (HR_g0.out.mono (fun _ h => h) (fun b h => hb.block b (by have := h.2; omega)))
  have HH_g0 := hide (HH_g0.out.mono (fun _ h => h) (fun b h => hb.block b (by have := h.2; omega)))
  have HB_w16 := hide ((HB_w15).out.trans (hb.mono (HB_w15).out.size))
  clear hb
  go_wp2_with fail
  refine (markIntS_hold R 1 A_g0 c_g0 w16 (New w7 w8) HRl.out HRn.out (by omega) (by omega) HH_g0.out).mono ?_
  rintro e w17 ⟨ks_, rfl, ho, hK⟩
  have hz_w17 : w16.heap.size ≤ w17.heap.size := ho.size
  have HR_v0 := hide (HR_v0.out.mono (fun _ h => h) (fun b h => ho.block b (by have := h.2; omega) (fun hS => by have h1 := h.1; have h2 := h.2; have h3 := hS.1; have h4 := hS.2; omega)))
  have HB_w17 := hide (below_only (HB_w16).out ho (HB_w16).out.size (fun i hi => by have := hi.1; omega))
  have HK_g0 := hide hK; clear hK ho HH_g0 HR_g0
  go_wp2_with fail
  refine (heldIntS_list R ks_ 1 A_g0 c_g0 w17 (New w7 w8) HRl.out HRn.out (by omega) (by omega) HK_g0.out).mono ?_
  rintro e _ ⟨rfl, rfl⟩
  go_wp2_with fail
  refine (toTxnS xs0 A0 c0 w17 hl0 (fun x hx => Nat.le_trans (tot_le (fun x : Txn => x.Ops.length) xs0 x hx) hs0) (HA0.out.old (HB_w17).out)).mono ?_
  rintro e w18 ⟨v_z0, rfl, hO, hb⟩
  obtain ⟨A_z0, c_z0, rfl, hle, hcm, hR⟩ := hO.weakTxn.old
  have HR := hide hR; clear hR hO
  have HL_z0 := hide hle; have HC_z0 := hide hcm; clear hle hcm
  have hz_w18 : w17.heap.size ≤ w18.heap.size := hb.size
  have HR_v0 := hide (HR_v0.out.mono (fun _ h => h) (fun b h => hb.block b (by have := h.2; omega)))
  have HK_g0 := hide (HK_g0.out.keep (fun b h => hb.block b (by have := h.2; omega)))
  have HB_w18 := hide ((HB_w17).out.trans (hb.mono (HB_w17).out.size))
  have HR_z0 := hide HR.out; clear HR hb
  go_wp2_with fail
  refine (toIntSS xs1 A1 c1 w18 hl1 (fun x hx => Nat.le_trans (tot_le (List.length) xs1 x hx) hs1) (HA1.out.old (HB_w18).out)).mono ?_
  rintro e w19 ⟨v_z1, rfl, hO, hb⟩
  obtain ⟨A_z1, c_z1, rfl, hle, hcm, hR⟩ := hO.weakIntS.old
  have HR := hide hR; clear hR hO
  have HL_z1 := hide hle; have HC_z1 := hide hcm; clear hle hcm
  have hz_w19 : w18.heap.size ≤ w19.heap.size := hb.size
  have HR_v0 := hide (HR_v0.out.mono (fun _ h => h) (fun b h => hb.block b (by have := h.2; omega)))
  have HK_g0 := hide (HK_g0.out.keep (fun b h => hb.block b (by have := h.2; omega)))
  have HB_w19 := hide ((HB_w18).out.trans (hb.mono (HB_w18).out.size))
  have HR_z0 := hide (HR_z0.out.old hb)
  have HR_z1 := hide HR.out; clear HR hb
  go_wp2_with fail
  have hc := implSessionBreaks xs0 xs1 a2 A_z0 A_z1 c_z0 c_z1 w19 hm0 hl1 (fun x hx => Nat.le_trans (tot_le (fun x : List Int => x.length) xs1 x hx) hs1) HR_z0.out HR_z1.out
  rw [HRe.out] at hc
  refine hc.mono ?_
  clear hc
  rintro e w20 ⟨v_h0, rfl, hF, hb⟩
  have HH0 := hide hF
  obtain ⟨A_h0, c_h0, rfl, _, _, hR⟩ := hF.sl
  have HR0 := hide hR; clear hR hF
  have hz_w20 : w19.heap.size ≤ w20.heap.size := hb.size
  have HR_v0 := hide (HR_v0.out.mono (fun _ h => h) (fun b h => hb.block b (by have := h.2; omega)))
  have HK_g0 := hide (HK_g0.out.keep (fun b h => hb.block b (by have := h.2; omega)))
  have HB_w20 := hide ((HB_w19).out.trans (hb.mono (HB_w19).out.size))
  have HR_z0 := hide (HR_z0.out.old hb)
  have HR_z1 := hide (HR_z1.out.old hb)
  have HR_h0 := hide HR0.out; clear HR0 hb
  have HH_h0 := hide HH0.out; clear HH0
  go_wp2_with fail
  refine (eqIntSS R A_h0 A_v0 c_h0 c_v0 w20 (by have := HRl.out; simp only [maxLen]; omega) (fun x hx => by have := HRn.out x hx; simp only [maxLen]; omega) (HR_h0.out.mono (S' := Old w20) (fun b h => by have := h.2; unfold Old; omega) (fun _ _ => rfl)) (HR_v0.out.mono (S' := Old w20) (fun b h => by have := h.2; unfold Old; omega) (fun _ _ => rfl))).mono ?_
  rintro e w21 ⟨rfl, hb⟩
  have hz_w21 : w20.heap.size ≤ w21.heap.size := hb.size
  have HR_v0 := hide (HR_v0.out.mono (fun _ h => h) (fun b h => hb.block b (by have := h.2; omega)))
  have HK_g0 := hide (HK_g0.out.keep (fun b h => hb.block b (by have := h.2; omega)))
  have HR_h0 := hide (HR_h0.out.mono (fun _ h => h) (fun b h => hb.block b (by have := h.2; omega)))
  have HH_h0 := hide (HH_h0.out.mono (fun _ h => h) (fun b h => hb.block b (by have := h.2; omega)))
  have HB_w21 := hide ((HB_w20).out.trans (hb.mono (HB_w20).out.size))
  clear hb
  go_wp2_with fail
  refine (heldIntS_list R ks_ 1 A_g0 c_g0 w21 (New w7 w8) HRl.out HRn.out (by omega) (by omega) HK_g0.out).mono ?_
  rintro e _ ⟨rfl, rfl⟩
  go_wp2_with fail
  go_ret
  exact ⟨rfl, (HB_w21).out⟩
end Go.Proofs.Ytmlbfhknapkhgaa
