/- The law of VerdictOf: the program answers as the reference does, for all arguments, in memory of its own. -/
import Derived.Test.YtjiobgfaohldhaaGreatQOrders
import Derived.Test.YtjiobgfaohldhaaGreatQHoldsI
import Derived.Test.YtjiobgfaohldhaaGreatQSzC
import Derived.Test.YtjiobgfaohldhaaGreatProg
import Derived.Test.YtjiobgfaohldhaaGreatQToA
import Derived.Test.YtjiobgfaohldhaaGreatQAllF
namespace Go.Proofs.YtjiobgfaohldhaaGreat
open Go.RowKit
set_option linter.unusedVariables false

theorem verdD_bds (h : List Txn) : (verdD h).Order.length ≤ 8 ∧ (verdD h).Cycles.length ≤ 200 ∧ (∀ x ∈ (verdD h).Cycles, x.length ≤ 7) ∧ ((verdD h).Order = [] ∨ (verdD h).Cycles = []) := by
  unfold verdD verdO
  split
  · exact ⟨by simp, by simp, by simp, .inl rfl⟩
  · split
    · rename_i o hf
      have hp := (findF_some hf).2.1.length_eq
      have h2 : (doneL h).length ≤ h.length := doneI_len h _
      have h3 := (histV_parts (findF_some hf).1).1
      exact ⟨by simp only [Option.getD_some]; omega, by simp, by simp, .inr rfl⟩
    · refine ⟨by simp, ?_, ?_, .inl rfl⟩
      · simp only [Option.getD_some]
        split
        · unfold cycsO; rw [List.length_map]; exact allO_len h
        · simp
      · simp only [Option.getD_some]
        split
        · intro x hx
          obtain ⟨os, _, rfl⟩ := List.mem_map.1 hx
          exact cycO_le7 _ _
        · simp
set_option maxRecDepth 10000 in
set_option maxHeartbeats 4000000 in
theorem lawVerO (xs0 : List Txn) (A0 : Option Addr) (c0 : Nat) (w : World) (hm0 : xs0.length ≤ maxLen) (hA0 : Row tTxn w (Old w) A0 xs0) :
    Calls Tryz.prog 4 #[.slice A0 xs0.length c0] w fun e w' => e = .returned (.bool true) ∧ Below w.heap.size w w' := by
  have HA0 := hide hA0; clear hA0
  have hq0 : xs0.length ≤ 9223372036854775807 := by simpa [maxLen] using hm0
  go_enter Tryz.func4, Tryz.ntmps4
  go_wp2_with fail
  refine (szTxnS xs0 A0 c0 1048576 w hm0 (lens_Txn HA0.out) (by omega) (by omega) HA0.out).mono ?_
  rintro e w1 ⟨l0, rfl, hr, hb⟩
  have hz_w1 : w.heap.size ≤ w1.heap.size := hb.size
  have HB_w1 := hide ((Below.refl _ _).trans (hb.mono (Nat.le_refl _)))
  clear hb
  rcases hr with rfl | ⟨g0, k0⟩
  · go_wp2_with fail
    go_ret
    exact ⟨rfl, (HB_w1).out⟩
  have hl0 : xs0.length ≤ 1048576 := by omega
  have hs0 : tot (fun x : Txn => x.Ops.length) xs0 ≤ 1048576 := by omega
  have K0 := hide k0; clear k0
  have hbd := verdD_bds xs0
  obtain ⟨g, hg⟩ : ∃ g, (verdD xs0).Good = g := ⟨_, rfl⟩
  obtain ⟨o, ho⟩ : ∃ o, (verdD xs0).Order = o := ⟨_, rfl⟩
  obtain ⟨cs, hcs⟩ : ∃ cs, (verdD xs0).Cycles = cs := ⟨_, rfl⟩
  obtain ⟨ok, hok⟩ : ∃ ok, (verdO xs0).isSome = ok := ⟨_, rfl⟩
  rw [ho, hcs] at hbd
  have HG := hide hg; have HO := hide ho; have HCs := hide hcs; have HK := hide hok; have HBd := hide hbd
  have hol := hbd.1; have hcl := hbd.2.1
  clear hg ho hcs hok hbd
  obtain ⟨rr, hrr⟩ : ∃ rr, rr = kS (1 + (o.length : Int)) (lensS cs) cs.length := ⟨_, rfl⟩
  have hr0 : ¬ rr < 0 := by have := kS_ge (1 + (o.length : Int)) (lensS cs) cs.length; omega
  have hr1 : decide (rr < 0) = false := decide_eq_false hr0
  have HRr := hide hrr; clear hrr
  have hoo : (ok != ok) = false := by simp
  go_wp2_with fail
  refine (toTxnS xs0 A0 c0 w1 hl0 (fun x hx => Nat.le_trans (tot_le (fun x : Txn => x.Ops.length) xs0 x hx) hs0) (HA0.out.old (HB_w1).out)).mono ?_
  rintro e w2 ⟨v_s0, rfl, hO, hb⟩
  obtain ⟨A_s0, c_s0, rfl, hle, hcm, hR⟩ := hO.weakTxn.old
  have HR := hide hR; clear hR hO
  have HL_s0 := hide hle; have HC_s0 := hide hcm; clear hle hcm
  have hz_w2 : w1.heap.size ≤ w2.heap.size := hb.size
  have HB_w2 := hide ((HB_w1).out.trans (hb.mono (HB_w1).out.size))
  have HR_s0 := hide HR.out; clear HR hb
  go_wp2_with fail
  have hc := specVerdictOf xs0 A_s0 c_s0 w2 hl0 (fun x hx => Nat.le_trans (tot_le (fun x : Txn => x.Ops.length) xs0 x hx) hs0) hs0 HR_s0.out
  unfold VerdPostS at hc
  rw [HG.out, HO.out, HCs.out, HK.out] at hc
  refine hc.mono ?_
  clear hc
  rintro e w3 ⟨vo, vc, rfl, h1, h2, hb⟩
  obtain ⟨A_p, c_p, rfl, _, _, h3⟩ := h1
  obtain ⟨A_q, c_q, rfl, _, _, h4⟩ := h2
  have HR3 := hide h3; have HR4 := hide h4; clear h3 h4
  have hz_w3 : w2.heap.size ≤ w3.heap.size := hb.size
  have HB_w3 := hide ((HB_w2).out.trans (hb.mono (HB_w2).out.size))
  have HR_s0 := hide (HR_s0.out.old hb)
  have HR_p := hide HR3.out; have HR_q := hide HR4.out; clear HR3 HR4 hb
  go_upto_region 6 with fail
  obtain ⟨w4, hnw⟩ : ∃ w4, w4 = w3.alloc (.cells #[.bool g, .slice A_p o.length c_p, .slice A_q cs.length c_q] 32) := ⟨_, rfl⟩
  rw [← hnw]
  have hb : Below w3.heap.size w3 w4 := by rw [hnw]; exact (Below.refl _ _).alloc (Nat.le_refl _) _
  have hl_w4 : w3.heap.size < w4.heap.size := by rw [hnw]; simp
  have hV := hide (show Blk w4 w3.heap.size 32 #[.bool g, .slice A_p o.length c_p, .slice A_q cs.length c_q] by rw [hnw]; exact Blk.new _ _ _)
  clear hnw
  have hz_w4 : w3.heap.size ≤ w4.heap.size := hb.size
  have HR_p := hide (HR_p.out.mono (fun _ h => h) (fun b h => hb.block b (by have := h.2; omega)))
  have HR_q := hide (HR_q.out.mono (fun _ h => h) (fun b h => hb.block b (by have := h.2; omega)))
  have HB_w4 := hide ((HB_w3).out.trans (hb.mono (HB_w3).out.size))
  have HV_v4 := hide hV.out; clear hV hb
  go_wp2_with fail
  refine (toTxnS xs0 A0 c0 w4 hl0 (fun x hx => Nat.le_trans (tot_le (fun x : Txn => x.Ops.length) xs0 x hx) hs0) (HA0.out.old (HB_w4).out)).mono ?_
  rintro e w5 ⟨v_x0, rfl, hO, hb⟩
  have HO0 := hide hO
  obtain ⟨A_x0, c_x0, rfl, hle, hcm, hR⟩ := hO.weakTxn.old
  have HR := hide hR; clear hR hO hle hcm
  have hz_w5 : w4.heap.size ≤ w5.heap.size := hb.size
  have HR_p := hide (HR_p.out.mono (fun _ h => h) (fun b h => hb.block b (by have := h.2; omega)))
  have HR_q := hide (HR_q.out.mono (fun _ h => h) (fun b h => hb.block b (by have := h.2; omega)))
  have HB_w5 := hide ((HB_w4).out.trans (hb.mono (HB_w4).out.size))
  have HV_v4 := hide (HV_v4.out.of (hb.block _ HV_v4.out.lt))
  have HR_x0 := hide HR.out; have HO_x0 := hide HO0.out; clear HR HO0 hb
  go_wp2_with fail
  have hc := implVerdictOf xs0 A_x0 c_x0 w5 hm0 HR_x0.out
  unfold VerdPost at hc
  rw [HG.out, HO.out, HCs.out, HK.out] at hc
  refine hc.mono ?_
  clear hc
  rintro e w6 ⟨vo, vc, rfl, h1, h2, hb⟩
  have HH1 := hide h1; have HH2 := hide h2
  obtain ⟨A_go, c_go, rfl, _, _, h3⟩ := h1.sl
  obtain ⟨A_gc, c_gc, rfl, _, _, h4⟩ := h2.sl
  have HR3 := hide h3; have HR4 := hide h4; clear h3 h4 h1 h2
  have hz_w6 : w5.heap.size ≤ w6.heap.size := hb.size
  have HR_p := hide (HR_p.out.mono (fun _ h => h) (fun b h => hb.block b (by have := h.2; omega)))
  have HR_q := hide (HR_q.out.mono (fun _ h => h) (fun b h => hb.block b (by have := h.2; omega)))
  have HO_x0 := hide (HO_x0.out.mono (fun _ h => h) (fun b h => hb.block b (by have := h.2; omega)))
  have HB_w6 := hide ((HB_w5).out.trans (hb.mono (HB_w5).out.size))
  have HR_x0 := hide (HR_x0.out.old hb)
  have HV_v4 := hide (HV_v4.out.of (hb.block _ HV_v4.out.lt))
  have HR_go := hide HR3.out; have HR_gc := hide HR4.out; have HH_go := hide HH1.out; have HH_gc := hide HH2.out; clear HR3 HR4 HH1 HH2 hb
  go_upto_region 8 with fail
  obtain ⟨w7, hnw⟩ : ∃ w7, w7 = w6.alloc (.cells #[.bool g, .slice A_go o.length c_go, .slice A_gc cs.length c_gc] 32) := ⟨_, rfl⟩
  rw [← hnw]
  have hb : Below w6.heap.size w6 w7 := by rw [hnw]; exact (Below.refl _ _).alloc (Nat.le_refl _) _
  have hl_w7 : w6.heap.size < w7.heap.size := by rw [hnw]; simp
  have hV := hide (show Blk w7 w6.heap.size 32 #[.bool g, .slice A_go o.length c_go, .slice A_gc cs.length c_gc] by rw [hnw]; exact Blk.new _ _ _)
  clear hnw
  have hz_w7 : w6.heap.size ≤ w7.heap.size := hb.size
  have HR_p := hide (HR_p.out.mono (fun _ h => h) (fun b h => hb.block b (by have := h.2; omega)))
  have HR_q := hide (HR_q.out.mono (fun _ h => h) (fun b h => hb.block b (by have := h.2; omega)))
  have HO_x0 := hide (HO_x0.out.mono (fun _ h => h) (fun b h => hb.block b (by have := h.2; omega)))
  have HR_go := hide (HR_go.out.mono (fun _ h => h) (fun b h => hb.block b (by have := h.2; omega)))
  have HH_go := hide (HH_go.out.mono (fun _ h => h) (fun b h => hb.block b (by have := h.2; omega)))
  have HR_gc := hide (HR_gc.out.mono (fun _ h => h) (fun b h => hb.block b (by have := h.2; omega)))
  have HH_gc := hide (HH_gc.out.mono (fun _ h => h) (fun b h => hb.block b (by have := h.2; omega)))
  have HB_w7 := hide ((HB_w6).out.trans (hb.mono (HB_w6).out.size))
  have HR_x0 := hide (HR_x0.out.old hb)
  have HV_v4 := hide (HV_v4.out.of (hb.block _ HV_v4.out.lt))
  have HV_v7 := hide hV.out; clear hV hb
  have x0_v7 := HV_v7.out.cell 0; have x1_v7 := HV_v7.out.cell 1; have x2_v7 := HV_v7.out.cell 2
  simp only [List.getElem?_toArray, List.getElem?_cons_zero, List.getElem?_cons_succ] at x0_v7 x1_v7 x2_v7
  have x0_v4 := HV_v4.out.cell 0; have x1_v4 := HV_v4.out.cell 1; have x2_v4 := HV_v4.out.cell 2
  simp only [List.getElem?_toArray, List.getElem?_cons_zero, List.getElem?_cons_succ] at x0_v4 x1_v4 x2_v4
  go_wp2_with fail
  refine (eqVerdict g o cs A_go A_gc A_p A_q c_go c_gc c_p c_q w7 (by simp only [maxLen]; omega) (by simp only [maxLen]; omega) (fun x hx => by have := HBd.out.2.2.1 x hx; simp only [maxLen]; omega) (HR_go.out.mono (S' := Old w7) (fun b h => by have := h.2; unfold Old; omega) (fun _ _ => rfl)) (HR_gc.out.mono (S' := Old w7) (fun b h => by have := h.2; unfold Old; omega) (fun _ _ => rfl)) (HR_p.out.mono (S' := Old w7) (fun b h => by have := h.2; unfold Old; omega) (fun _ _ => rfl)) (HR_q.out.mono (S' := Old w7) (fun b h => by have := h.2; unfold Old; omega) (fun _ _ => rfl))).mono ?_
  rintro e w8 ⟨rfl, hb⟩
  clear x0_v7 x1_v7 x2_v7 x0_v4 x1_v4 x2_v4
  have hz_w8 : w7.heap.size ≤ w8.heap.size := hb.size
  have HR_p := hide (HR_p.out.mono (fun _ h => h) (fun b h => hb.block b (by have := h.2; omega)))
  have HR_q := hide (HR_q.out.mono (fun _ h => h) (fun b h => hb.block b (by have := h.2; omega)))
  have HO_x0 := hide (HO_x0.out.mono (fun _ h => h) (fun b h => hb.block b (by have := h.2; omega)))
  have HR_go := hide (HR_go.out.mono (fun _ h => h) (fun b h => hb.block b (by have := h.2; omega)))
  have HH_go := hide (HH_go.out.mono (fun _ h => h) (fun b h => hb.block b (by have := h.2; omega)))
  have HR_gc := hide (HR_gc.out.mono (fun _ h => h) (fun b h => hb.block b (by have := h.2; omega)))
  have HH_gc := hide (HH_gc.out.mono (fun _ h => h) (fun b h => hb.block b (by have := h.2; omega)))
  have HB_w8 := hide ((HB_w7).out.trans (hb.mono (HB_w7).out.size))
  have HR_x0 := hide (HR_x0.out.old hb)
  have HV_v4 := hide (HV_v4.out.of (hb.block _ HV_v4.out.lt))
  have HV_v7 := hide (HV_v7.out.of (hb.block _ HV_v7.out.lt))
  clear hb
  go_wp2_with fail
  refine (toTxnS xs0 A0 c0 w8 hl0 (fun x hx => Nat.le_trans (tot_le (fun x : Txn => x.Ops.length) xs0 x hx) hs0) (HA0.out.old (HB_w8).out)).mono ?_
  rintro e w9 ⟨v_y0, rfl, hO, hb⟩
  obtain ⟨A_y0, c_y0, rfl, hle, hcm, hR⟩ := hO.weakTxn.old
  have HR := hide hR; clear hR hO
  have HL_y0 := hide hle; have HC_y0 := hide hcm; clear hle hcm
  have hz_w9 : w8.heap.size ≤ w9.heap.size := hb.size
  have HR_p := hide (HR_p.out.mono (fun _ h => h) (fun b h => hb.block b (by have := h.2; omega)))
  have HR_q := hide (HR_q.out.mono (fun _ h => h) (fun b h => hb.block b (by have := h.2; omega)))
  have HO_x0 := hide (HO_x0.out.mono (fun _ h => h) (fun b h => hb.block b (by have := h.2; omega)))
  have HR_go := hide (HR_go.out.mono (fun _ h => h) (fun b h => hb.block b (by have := h.2; omega)))
  have HH_go := hide (HH_go.out.mono (fun _ h => h) (fun b h => hb.block b (by have := h.2; omega)))
  have HR_gc := hide (HR_gc.out.mono (fun _ h => h) (fun b h => hb.block b (by have := h.2; omega)))
  have HH_gc := hide (HH_gc.out.mono (fun _ h => h) (fun b h => hb.block b (by have := h.2; omega)))
  have HB_w9 := hide ((HB_w8).out.trans (hb.mono (HB_w8).out.size))
  have HR_x0 := hide (HR_x0.out.old hb)
  have HV_v4 := hide (HV_v4.out.of (hb.block _ HV_v4.out.lt))
  have HV_v7 := hide (HV_v7.out.of (hb.block _ HV_v7.out.lt))
  have HR_y0 := hide HR.out; clear HR hb
  go_wp2_with fail
  refine (eqTxnS xs0 A_x0 A_y0 c_x0 c_y0 w9 hm0 (fun x hx => Nat.le_trans (tot_le (fun x : Txn => x.Ops.length) xs0 x hx) (Nat.le_trans hs0 (by simp [maxLen]))) HR_x0.out HR_y0.out).mono ?_
  rintro e w10 ⟨rfl, hb⟩
  have hz_w10 : w9.heap.size ≤ w10.heap.size := hb.size
  have HR_p := hide (HR_p.out.mono (fun _ h => h) (fun b h => hb.block b (by have := h.2; omega)))
  have HR_q := hide (HR_q.out.mono (fun _ h => h) (fun b h => hb.block b (by have := h.2; omega)))
  have HO_x0 := hide (HO_x0.out.mono (fun _ h => h) (fun b h => hb.block b (by have := h.2; omega)))
  have HR_go := hide (HR_go.out.mono (fun _ h => h) (fun b h => hb.block b (by have := h.2; omega)))
  have HH_go := hide (HH_go.out.mono (fun _ h => h) (fun b h => hb.block b (by have := h.2; omega)))
  have HR_gc := hide (HR_gc.out.mono (fun _ h => h) (fun b h => hb.block b (by have := h.2; omega)))
  have HH_gc := hide (HH_gc.out.mono (fun _ h => h) (fun b h => hb.block b (by have := h.2; omega)))
  have HB_w10 := hide ((HB_w9).out.trans (hb.mono (HB_w9).out.size))
  have HR_x0 := hide (HR_x0.out.old hb)
  have HR_y0 := hide (HR_y0.out.old hb)
  have HV_v4 := hide (HV_v4.out.of (hb.block _ HV_v4.out.lt))
  have HV_v7 := hide (HV_v7.out.of (hb.block _ HV_v7.out.lt))
  clear hb
  go_wp2_with fail
  refine (markTxnS_arg xs0 1 A_x0 c_x0 w10 (New w4 w5) hl0 (fun x hx => Nat.le_trans (tot_le (fun x : Txn => x.Ops.length) xs0 x hx) hs0) rfl HO_x0.out).mono ?_
  rintro e w11 ⟨⟨rk, rfl, hrk⟩, ho⟩
  have hz_w11 : w10.heap.size ≤ w11.heap.size := ho.size
  have HR_p := hide (HR_p.out.mono (fun _ h => h) (fun b h => ho.block b (by have := h.2; omega) (fun hS => by have h1 := h.1; have h2 := h.2; have h3 := hS.1; have h4 := hS.2; omega)))
  have HR_q := hide (HR_q.out.mono (fun _ h => h) (fun b h => ho.block b (by have := h.2; omega) (fun hS => by have h1 := h.1; have h2 := h.2; have h3 := hS.1; have h4 := hS.2; omega)))
  have HR_go := hide (HR_go.out.mono (fun _ h => h) (fun b h => ho.block b (by have := h.2; omega) (fun hS => by have h1 := h.1; have h2 := h.2; have h3 := hS.1; have h4 := hS.2; omega)))
  have HH_go := hide (HH_go.out.mono (fun _ h => h) (fun b h => ho.block b (by have := h.2; omega) (fun hS => by have h1 := h.1; have h2 := h.2; have h3 := hS.1; have h4 := hS.2; omega)))
  have HR_gc := hide (HR_gc.out.mono (fun _ h => h) (fun b h => ho.block b (by have := h.2; omega) (fun hS => by have h1 := h.1; have h2 := h.2; have h3 := hS.1; have h4 := hS.2; omega)))
  have HH_gc := hide (HH_gc.out.mono (fun _ h => h) (fun b h => ho.block b (by have := h.2; omega) (fun hS => by have h1 := h.1; have h2 := h.2; have h3 := hS.1; have h4 := hS.2; omega)))
  have HB_w11 := hide (below_only (HB_w10).out ho (HB_w10).out.size (fun i hi => by have := hi.1; omega))
  have HV_v4 := hide (HV_v4.out.of (ho.block _ HV_v4.out.lt (fun hS => by have h3 := hS.1; have h4 := hS.2; omega)))
  have HV_v7 := hide (HV_v7.out.of (ho.block _ HV_v7.out.lt (fun hS => by have h3 := hS.1; have h4 := hS.2; omega)))
  clear ho
  have hrk1 : decide (rk < 0) = false := decide_eq_false (by omega)
  have x0_v7 := HV_v7.out.cell 0; have x1_v7 := HV_v7.out.cell 1; have x2_v7 := HV_v7.out.cell 2
  simp only [List.getElem?_toArray, List.getElem?_cons_zero, List.getElem?_cons_succ] at x0_v7 x1_v7 x2_v7
  have x0_v4 := HV_v4.out.cell 0; have x1_v4 := HV_v4.out.cell 1; have x2_v4 := HV_v4.out.cell 2
  simp only [List.getElem?_toArray, List.getElem?_cons_zero, List.getElem?_cons_succ] at x0_v4 x1_v4 x2_v4
  go_wp2_with fail
  refine (eqVerdict g o cs A_go A_gc A_p A_q c_go c_gc c_p c_q w11 (by simp only [maxLen]; omega) (by simp only [maxLen]; omega) (fun x hx => by have := HBd.out.2.2.1 x hx; simp only [maxLen]; omega) (HR_go.out.mono (S' := Old w11) (fun b h => by have := h.2; unfold Old; omega) (fun _ _ => rfl)) (HR_gc.out.mono (S' := Old w11) (fun b h => by have := h.2; unfold Old; omega) (fun _ _ => rfl)) (HR_p.out.mono (S' := Old w11) (fun b h => by have := h.2; unfold Old; omega) (fun _ _ => rfl)) (HR_q.out.mono (S' := Old w11) (fun b h => by have := h.2; unfold Old; omega) (fun _ _ => rfl))).mono ?_
  rintro e w12 ⟨rfl, hb⟩
  clear x0_v7 x1_v7 x2_v7 x0_v4 x1_v4 x2_v4
  have hz_w12 : w11.heap.size ≤ w12.heap.size := hb.size
  have HR_p := hide (HR_p.out.mono (fun _ h => h) (fun b h => hb.block b (by have := h.2; omega)))
  have HR_q := hide (HR_q.out.mono (fun _ h => h) (fun b h => hb.block b (by have := h.2; omega)))
  have HR_go := hide (HR_go.out.mono (fun _ h => h) (fun b h => hb.block b (by have := h.2; omega)))
  have HH_go := hide (HH_go.out.mono (fun _ h => h) (fun b h => hb.block b (by have := h.2; omega)))
  have HR_gc := hide (HR_gc.out.mono (fun _ h => h) (fun b h => hb.block b (by have := h.2; omega)))
  have HH_gc := hide (HH_gc.out.mono (fun _ h => h) (fun b h => hb.block b (by have := h.2; omega)))
  have HB_w12 := hide ((HB_w11).out.trans (hb.mono (HB_w11).out.size))
  have HV_v4 := hide (HV_v4.out.of (hb.block _ HV_v4.out.lt))
  have HV_v7 := hide (HV_v7.out.of (hb.block _ HV_v7.out.lt))
  clear hb
  have x0_v7 := HV_v7.out.cell 0; have x1_v7 := HV_v7.out.cell 1; have x2_v7 := HV_v7.out.cell 2
  simp only [List.getElem?_toArray, List.getElem?_cons_zero, List.getElem?_cons_succ] at x0_v7 x1_v7 x2_v7
  go_wp2_with fail
  have hc := markVerdict g o cs A_go A_gc c_go c_gc w12 (New w5 w6) (by omega) (by omega) (fun x hx => by have := HBd.out.2.2.1 x hx; omega) HBd.out.2.2.2 (fun b h => by have := h.2; unfold Old; omega) HH_go.out HH_gc.out
  rw [← HRr.out] at hc
  refine hc.mono ?_
  clear hc
  rintro e w13 ⟨ks_, rfl, ho, hK⟩
  clear x0_v7 x1_v7 x2_v7
  have hz_w13 : w12.heap.size ≤ w13.heap.size := ho.size
  have HR_p := hide (HR_p.out.mono (fun _ h => h) (fun b h => ho.block b (by have := h.2; omega) (fun hS => by have h1 := h.1; have h2 := h.2; have h3 := hS.1; have h4 := hS.2; omega)))
  have HR_q := hide (HR_q.out.mono (fun _ h => h) (fun b h => ho.block b (by have := h.2; omega) (fun hS => by have h1 := h.1; have h2 := h.2; have h3 := hS.1; have h4 := hS.2; omega)))
  have HB_w13 := hide (below_only (HB_w12).out ho (HB_w12).out.size (fun i hi => by have := hi.1; omega))
  have HV_v4 := hide (HV_v4.out.of (ho.block _ HV_v4.out.lt (fun hS => by have h3 := hS.1; have h4 := hS.2; omega)))
  have HV_v7 := hide (HV_v7.out.of (ho.block _ HV_v7.out.lt (fun hS => by have h3 := hS.1; have h4 := hS.2; omega)))
  have HK_g := hide hK; clear hK ho HH_go HH_gc HR_go HR_gc
  have x0_v7 := HV_v7.out.cell 0; have x1_v7 := HV_v7.out.cell 1; have x2_v7 := HV_v7.out.cell 2
  simp only [List.getElem?_toArray, List.getElem?_cons_zero, List.getElem?_cons_succ] at x0_v7 x1_v7 x2_v7
  go_wp2_with fail
  have hc := heldVerdict g o cs ks_ A_go A_gc c_go c_gc w13 (New w5 w6) (by omega) (by omega) (fun x hx => by have := HBd.out.2.2.1 x hx; omega) (fun b h => by have := h.2; unfold Old; omega) HK_g.out
  rw [← HRr.out] at hc
  refine hc.mono ?_
  clear hc
  rintro e w14 ⟨rfl, hb⟩
  clear x0_v7 x1_v7 x2_v7
  have hz_w14 : w13.heap.size ≤ w14.heap.size := hb.size
  have HR_p := hide (HR_p.out.mono (fun _ h => h) (fun b h => hb.block b (by have := h.2; omega)))
  have HR_q := hide (HR_q.out.mono (fun _ h => h) (fun b h => hb.block b (by have := h.2; omega)))
  have HK_g := hide (HK_g.out.keep (fun b h => hb.block b (by have := h.2; omega)))
  have HB_w14 := hide ((HB_w13).out.trans (hb.mono (HB_w13).out.size))
  have HV_v4 := hide (HV_v4.out.of (hb.block _ HV_v4.out.lt))
  have HV_v7 := hide (HV_v7.out.of (hb.block _ HV_v7.out.lt))
  clear hb
  go_wp2_with fail
  refine (toTxnS xs0 A0 c0 w14 hl0 (fun x hx => Nat.le_trans (tot_le (fun x : Txn => x.Ops.length) xs0 x hx) hs0) (HA0.out.old (HB_w14).out)).mono ?_
  rintro e w15 ⟨v_z0, rfl, hO, hb⟩
  obtain ⟨A_z0, c_z0, rfl, hle, hcm, hR⟩ := hO.weakTxn.old
  have HR := hide hR; clear hR hO
  have HL_z0 := hide hle; have HC_z0 := hide hcm; clear hle hcm
  have hz_w15 : w14.heap.size ≤ w15.heap.size := hb.size
  have HR_p := hide (HR_p.out.mono (fun _ h => h) (fun b h => hb.block b (by have := h.2; omega)))
  have HR_q := hide (HR_q.out.mono (fun _ h => h) (fun b h => hb.block b (by have := h.2; omega)))
  have HK_g := hide (HK_g.out.keep (fun b h => hb.block b (by have := h.2; omega)))
  have HB_w15 := hide ((HB_w14).out.trans (hb.mono (HB_w14).out.size))
  have HV_v4 := hide (HV_v4.out.of (hb.block _ HV_v4.out.lt))
  have HV_v7 := hide (HV_v7.out.of (hb.block _ HV_v7.out.lt))
  have HR_z0 := hide HR.out; clear HR hb
  go_wp2_with fail
  have hc := implVerdictOf xs0 A_z0 c_z0 w15 hm0 HR_z0.out
  unfold VerdPost at hc
  rw [HG.out, HO.out, HCs.out, HK.out] at hc
  refine hc.mono ?_
  clear hc
  rintro e w16 ⟨vo, vc, rfl, h1, h2, hb⟩
  have HH1 := hide h1; have HH2 := hide h2
  obtain ⟨A_ho, c_ho, rfl, _, _, h3⟩ := h1.sl
  obtain ⟨A_hc, c_hc, rfl, _, _, h4⟩ := h2.sl
  have HR3 := hide h3; have HR4 := hide h4; clear h3 h4 h1 h2
  have hz_w16 : w15.heap.size ≤ w16.heap.size := hb.size
  have HR_p := hide (HR_p.out.mono (fun _ h => h) (fun b h => hb.block b (by have := h.2; omega)))
  have HR_q := hide (HR_q.out.mono (fun _ h => h) (fun b h => hb.block b (by have := h.2; omega)))
  have HK_g := hide (HK_g.out.keep (fun b h => hb.block b (by have := h.2; omega)))
  have HB_w16 := hide ((HB_w15).out.trans (hb.mono (HB_w15).out.size))
  have HR_z0 := hide (HR_z0.out.old hb)
  have HV_v4 := hide (HV_v4.out.of (hb.block _ HV_v4.out.lt))
  have HV_v7 := hide (HV_v7.out.of (hb.block _ HV_v7.out.lt))
  have HR_ho := hide HR3.out; have HR_hc := hide HR4.out; have HH_ho := hide HH1.out; have HH_hc := hide HH2.out; clear HR3 HR4 HH1 HH2 hb
  go_upto_region 25 with fail
  obtain ⟨w17, hnw⟩ : ∃ w17, w17 = w16.alloc (.cells #[.bool g, .slice A_ho o.length c_ho, .slice A_hc cs.length c_hc] 32) := ⟨_, rfl⟩
  rw [← hnw]
  have hb : Below w16.heap.size w16 w17 := by rw [hnw]; exact (Below.refl _ _).alloc (Nat.le_refl _) _
  have hl_w17 : w16.heap.size < w17.heap.size := by rw [hnw]; simp
  have hV := hide (show Blk w17 w16.heap.size 32 #[.bool g, .slice A_ho o.length c_ho, .slice A_hc cs.length c_hc] by rw [hnw]; exact Blk.new _ _ _)
  clear hnw
  have hz_w17 : w16.heap.size ≤ w17.heap.size := hb.size
  have HR_p := hide (HR_p.out.mono (fun _ h => h) (fun b h => hb.block b (by have := h.2; omega)))
  have HR_q := hide (HR_q.out.mono (fun _ h => h) (fun b h => hb.block b (by have := h.2; omega)))
  have HK_g := hide (HK_g.out.keep (fun b h => hb.block b (by have := h.2; omega)))
  have HR_ho := hide (HR_ho.out.mono (fun _ h => h) (fun b h => hb.block b (by have := h.2; omega)))
  have HH_ho := hide (HH_ho.out.mono (fun _ h => h) (fun b h => hb.block b (by have := h.2; omega)))
  have HR_hc := hide (HR_hc.out.mono (fun _ h => h) (fun b h => hb.block b (by have := h.2; omega)))
  have HH_hc := hide (HH_hc.out.mono (fun _ h => h) (fun b h => hb.block b (by have := h.2; omega)))
  have HB_w17 := hide ((HB_w16).out.trans (hb.mono (HB_w16).out.size))
  have HV_v4 := hide (HV_v4.out.of (hb.block _ HV_v4.out.lt))
  have HV_v7 := hide (HV_v7.out.of (hb.block _ HV_v7.out.lt))
  have HV_v12 := hide hV.out; clear hV hb
  have x0_v12 := HV_v12.out.cell 0; have x1_v12 := HV_v12.out.cell 1; have x2_v12 := HV_v12.out.cell 2
  simp only [List.getElem?_toArray, List.getElem?_cons_zero, List.getElem?_cons_succ] at x0_v12 x1_v12 x2_v12
  have x0_v4 := HV_v4.out.cell 0; have x1_v4 := HV_v4.out.cell 1; have x2_v4 := HV_v4.out.cell 2
  simp only [List.getElem?_toArray, List.getElem?_cons_zero, List.getElem?_cons_succ] at x0_v4 x1_v4 x2_v4
  go_wp2_with fail
  refine (eqVerdict g o cs A_ho A_hc A_p A_q c_ho c_hc c_p c_q w17 (by simp only [maxLen]; omega) (by simp only [maxLen]; omega) (fun x hx => by have := HBd.out.2.2.1 x hx; simp only [maxLen]; omega) (HR_ho.out.mono (S' := Old w17) (fun b h => by have := h.2; unfold Old; omega) (fun _ _ => rfl)) (HR_hc.out.mono (S' := Old w17) (fun b h => by have := h.2; unfold Old; omega) (fun _ _ => rfl)) (HR_p.out.mono (S' := Old w17) (fun b h => by have := h.2; unfold Old; omega) (fun _ _ => rfl)) (HR_q.out.mono (S' := Old w17) (fun b h => by have := h.2; unfold Old; omega) (fun _ _ => rfl))).mono ?_
  rintro e w18 ⟨rfl, hb⟩
  clear x0_v12 x1_v12 x2_v12 x0_v4 x1_v4 x2_v4
  have hz_w18 : w17.heap.size ≤ w18.heap.size := hb.size
  have HR_p := hide (HR_p.out.mono (fun _ h => h) (fun b h => hb.block b (by have := h.2; omega)))
  have HR_q := hide (HR_q.out.mono (fun _ h => h) (fun b h => hb.block b (by have := h.2; omega)))
  have HK_g := hide (HK_g.out.keep (fun b h => hb.block b (by have := h.2; omega)))
  have HR_ho := hide (HR_ho.out.mono (fun _ h => h) (fun b h => hb.block b (by have := h.2; omega)))
  have HH_ho := hide (HH_ho.out.mono (fun _ h => h) (fun b h => hb.block b (by have := h.2; omega)))
  have HR_hc := hide (HR_hc.out.mono (fun _ h => h) (fun b h => hb.block b (by have := h.2; omega)))
  have HH_hc := hide (HH_hc.out.mono (fun _ h => h) (fun b h => hb.block b (by have := h.2; omega)))
  have HB_w18 := hide ((HB_w17).out.trans (hb.mono (HB_w17).out.size))
  have HV_v4 := hide (HV_v4.out.of (hb.block _ HV_v4.out.lt))
  have HV_v7 := hide (HV_v7.out.of (hb.block _ HV_v7.out.lt))
  have HV_v12 := hide (HV_v12.out.of (hb.block _ HV_v12.out.lt))
  clear hb
  have x0_v7 := HV_v7.out.cell 0; have x1_v7 := HV_v7.out.cell 1; have x2_v7 := HV_v7.out.cell 2
  simp only [List.getElem?_toArray, List.getElem?_cons_zero, List.getElem?_cons_succ] at x0_v7 x1_v7 x2_v7
  go_wp2_with fail
  have hc := heldVerdict g o cs ks_ A_go A_gc c_go c_gc w18 (New w5 w6) (by omega) (by omega) (fun x hx => by have := HBd.out.2.2.1 x hx; omega) (fun b h => by have := h.2; unfold Old; omega) HK_g.out
  rw [← HRr.out] at hc
  refine hc.mono ?_
  clear hc
  rintro e w19 ⟨rfl, hb⟩
  clear x0_v7 x1_v7 x2_v7
  have hz_w19 : w18.heap.size ≤ w19.heap.size := hb.size
  have HR_p := hide (HR_p.out.mono (fun _ h => h) (fun b h => hb.block b (by have := h.2; omega)))
  have HR_q := hide (HR_q.out.mono (fun _ h => h) (fun b h => hb.block b (by have := h.2; omega)))
  have HK_g := hide (HK_g.out.keep (fun b h => hb.block b (by have := h.2; omega)))
  have HR_ho := hide (HR_ho.out.mono (fun _ h => h) (fun b h => hb.block b (by have := h.2; omega)))
  have HH_ho := hide (HH_ho.out.mono (fun _ h => h) (fun b h => hb.block b (by have := h.2; omega)))
  have HR_hc := hide (HR_hc.out.mono (fun _ h => h) (fun b h => hb.block b (by have := h.2; omega)))
  have HH_hc := hide (HH_hc.out.mono (fun _ h => h) (fun b h => hb.block b (by have := h.2; omega)))
  have HB_w19 := hide ((HB_w18).out.trans (hb.mono (HB_w18).out.size))
  have HV_v4 := hide (HV_v4.out.of (hb.block _ HV_v4.out.lt))
  have HV_v7 := hide (HV_v7.out.of (hb.block _ HV_v7.out.lt))
  have HV_v12 := hide (HV_v12.out.of (hb.block _ HV_v12.out.lt))
  clear hb
  go_wp2_with fail
  go_ret
  exact ⟨rfl, (HB_w19).out⟩
end Go.Proofs.YtjiobgfaohldhaaGreat
