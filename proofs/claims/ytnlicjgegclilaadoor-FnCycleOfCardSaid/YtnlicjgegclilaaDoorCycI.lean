/- The program's CycleOf and TopOrder. -/
import Derived.Test.YtnlicjgegclilaaDoorBack
import Derived.Test.YtnlicjgegclilaaDoorCycGood
namespace Go.Proofs.YtnlicjgegclilaaDoor
open Go.RowKit
set_option linter.unusedVariables false
set_option linter.unusedSimpArgs false

theorem cyc_none {xs : List Edge} {n : Nat} (hv : edgesV (n : Int) xs = true) (hno : ∀ i, i < n → ∀ l, ¬ Wk (edgE xs) i (l + 1) i) : cycO (n : Int) xs = [] := by
  have hv' := hv
  unfold edgesV at hv'
  simp only [Bool.and_eq_true, inR_iff] at hv'
  have hc : cycO (n : Int) xs = cycFrom xs n n 0 := by unfold cycO; rw [if_pos hv, Int.toNat_natCast]
  rw [hc]
  rcases cycFrom_eq (by omega) hv'.2 n 0 (by omega) with ⟨h1, _⟩ | ⟨i, _, h2, ⟨l, hl⟩, _, _⟩
  · exact h1
  · exact absurd hl (hno i h2 l)
theorem cyc_hit {xs : List Edge} {n i : Nat} (hv : edgesV (n : Int) xs = true) (hi : i < n) (hw : ∃ l, Wk (edgE xs) i (l + 1) i) (hno : ∀ j, j < i → ∀ l, ¬ Wk (edgE xs) j (l + 1) j) {far : List Int} (hI : FarI (edgE xs) i far) : cycO (n : Int) xs = backL (edgE xs) far i := by
  have hv' := hv
  unfold edgesV at hv'
  simp only [Bool.and_eq_true, inR_iff] at hv'
  have hc : cycO (n : Int) xs = cycFrom xs n n 0 := by unfold cycO; rw [if_pos hv, Int.toNat_natCast]
  rw [hc]
  obtain ⟨l0, hl0⟩ := hw
  rcases cycFrom_eq (by omega) hv'.2 n 0 (by omega) with ⟨_, h1⟩ | ⟨k, _, h2, ⟨l, hl⟩, h4, h5⟩
  · exact absurd hl0 (h1 i (by omega) hi l0)
  · have hk : k = i := by
      rcases Nat.lt_trichotomy k i with h | h | h
      · exact absurd hl (hno k h l)
      · exact h
      · exact absurd hl0 (h4 i (by omega) h l0)
    subst hk
    exact h5 far hI
theorem via_wk {M : Nat → Nat} (hE : ∀ i j, bitE M i j = true → i < 6 ∧ j < 6) (i : Nat) : (wN M 6 i).testBit i = true ↔ ∃ l, Wk (bitE M) i (l + 1) i :=
  (wN_via M 6 i i).trans ⟨Via.wk, fun ⟨l, h⟩ => h.via (fun a b hab => (hE a b hab).2)⟩
theorem allOf_edgE {n : Nat} {xs : List Edge} (hv : xs.all (edgeOk (n : Int)) = true) : bitE (matOf [1, 2, 3, 4] xs) = edgE xs := by
  funext i j
  exact allOf_bit hv i j
set_option maxRecDepth 10000 in
set_option maxHeartbeats 2000000 in
/-- CycleOf of the program answers the list. -/
theorem implCycleOf (many : Int) (xs : List Edge) (A : Option Addr) (c : Nat) (w : World) (hl : xs.length ≤ maxLen) (hA : Row tEdge w (Old w) A xs) :
    Calls Tryd.prog 10 #[.int .i64 many, .slice A xs.length c] w fun e w' => ∃ v, e = .returned v ∧ HoldI w' (New w w') (cycO many xs) v ∧ Below w.heap.size w w' := by
  have HE := hide (implEdgesValid many xs A c w hl hA)
  have HL := hide hl
  have HA := hide hA
  clear hl hA
  cases hv : edgesV many xs with
  | false =>
    have HR := hide (show cycO many xs = [] by unfold cycO; rw [hv]; rfl)
    rw [hv] at HE
    clear hv
    rw [HR.out]
    go_enter Tryd.func10, Tryd.ntmps10
    go_wp2_with (go_at_call 19; refine HE.out.mono ?_; rintro e w1 ⟨rfl, hb1⟩)
    go_ret
    exact ⟨_, rfl, ⟨0, Hold.nil 0⟩, hb1⟩
  | true =>
    have hv2 := hv
    unfold edgesV at hv2
    simp only [Bool.and_eq_true, decide_eq_true_eq] at hv2
    obtain ⟨⟨hv3, _⟩, hv4⟩ := hv2
    obtain ⟨hm0, hm6⟩ := inR_iff.1 hv3
    obtain ⟨n, rfl⟩ : ∃ n : Nat, many = (n : Int) := ⟨many.toNat, by omega⟩
    have HV := hide hv
    have HAl := hide hv4
    have HMl : Hid (∀ i, matOf [1, 2, 3, 4] xs i < 64) := matOf_lt hm6 xs (fun _ => 0) hv4 (fun _ => by decide)
    have HME := hide (allOf_edgE hv4)
    have HEin := hide (fun i j h => show i < 6 ∧ j < 6 from by have := edgE_in hv4 i j h; omega)
    rw [hv] at HE
    clear hv hv3 hv4
    go_enter Tryd.func10, Tryd.ntmps10
    go_upto_region 4 with (first | (go_at_call 19; refine HE.out.mono ?_; rintro e w1 ⟨rfl, hb1⟩; have HB1 := hide hb1; clear hb1) | (go_at_call 20; refine (allOf_any n xs A c w1 HL.out (HA.out.old HB1.out) hm6 HAl.out).mono ?_; rintro e w2 ⟨rfl, hb2⟩; have HB2 := hide (HB1.out.trans (hb2.mono HB1.out.size)); clear hb2) | (refine wpList_store_row rfl 44 (.tmp 5) (.tmp 13) rfl w2.heap.size _ rfl rfl 44 _ (Blk.new w2 _ _) infoMat rfl (row6_one _) ?_))
    generalize hW3 : World.setRow _ _ _ = W3
    have HX := hide (show Blk W3 w2.heap.size 44 (row6 (matOf [1, 2, 3, 4] xs)) by rw [← hW3]; exact setRow_heap _ _ _ _ _ _ (Blk.new w2 _ _))
    have HB3 := hide (show Below w.heap.size w W3 by rw [← hW3]; exact setRow_below (HB2.out.alloc HB2.out.size _) HB2.out.size _)
    have HG := hide HB2.out.size
    clear hW3
    generalize matOf [1, 2, 3, 4] xs = M at HX HMl HME ⊢
    generalize w2.heap.size = g at HX HG ⊢
    clear HB1 HB2
    go_upto_region 5 with (first | (refine wpList_load_row rfl 44 (.tmp 5) rfl g rfl 44 _ (0, 0) _ HX.out Tryd.underlying44 rfl infoMat ?_) | (go_at_call 25; refine (reach_any M _ HMl.out).mono ?_; rintro e w4 ⟨rfl, hb4⟩; have HB4 := hide (HB3.out.trans (hb4.mono HB3.out.size)); have HX4 := hide (HX.out.below hb4 HX.out.lt); clear hb4) | (refine wpList_store_row rfl 44 (.tmp 6) (.tmp 15) rfl w4.heap.size _ rfl rfl 44 _ (Blk.new w4 _ _) infoMat rfl (row6_one _) ?_))
    generalize hW5 : World.setRow _ _ _ = W5
    have HR5 := hide (show Blk W5 w4.heap.size 44 (row6 (wN M 6)) by rw [← hW5]; exact setRow_heap _ _ _ _ _ _ (Blk.new w4 _ _))
    have HX5 := hide (show Blk W5 g 44 (row6 M) by rw [← hW5]; exact (HX4.out.alloc _).of (setRow_other _ _ _ _ (Nat.ne_of_lt HX4.out.lt)))
    have HB5 := hide (show Below w.heap.size w W5 by rw [← hW5]; exact setRow_below (HB4.out.alloc HB4.out.size _) HB4.out.size _)
    clear hW5 HX HX4 HB3
    have HVia := hide (fun i => via_wk (M := M) (by rw [HME.out]; exact HEin.out) i)
    have HRl := hide (wN_lt HMl.out 6)
    generalize wN M 6 = R at HR5 HVia HRl
    generalize w4.heap.size = g2 at HR5 ⊢
    clear HB4
    go_wp2_with fail
    go_loopw [7, 17] (fun _ i wr => ∃ k : Nat, k ≤ n ∧ i = .int .i64 k ∧ Hid (∀ j, j < k → (R j).testBit j = false) ∧ Hid (Blk wr g 44 (row6 M)) ∧ Hid (Blk wr g2 44 (row6 R)) ∧ Hid (Below w.heap.size w wr)) (fun _ i _ => n - (intOf i).toNat)
    case atStart => exact ⟨0, Nat.zero_le _, rfl, (fun j h => absurd h (by omega)), HX5.out, HR5.out, HB5.out⟩
    case round =>
      obtain ⟨k, hk, rfl, hno, hX, hR, hb⟩ := hrel
      have HNo := hide hno.out; have HX := hide hX.out; have HR := hide hR.out; have HB := hide hb.out
      clear hno hX hR hb HX5 HR5 HB5
      by_cases hlt : k < n
      · have hki : (k : Int) < (n : Int) := by omega
        have hk6 : k < 6 := by omega
        cases hq : (R k).testBit k with
        | false =>
          have HQ := hide hq
          have HN2 := hide (show ∀ j, j < k + 1 → (R j).testBit j = false from fun j hj => by
            rcases Nat.lt_succ_iff_lt_or_eq.1 hj with h | rfl
            · exact HNo.out j h
            · exact hq)
          clear hq
          go_wp2_with (first | (refine wpList_load_row rfl 44 (.tmp 6) rfl g2 rfl 44 _ (0, 0) _ HR.out Tryd.underlying44 rfl infoMat ?_) | (go_at_call 22; refine (has_ R k k hk6 hk6 (HRl.out _) _).mono ?_; rintro e w6 ⟨rfl, hb6⟩; have HX6 := hide (HX.out.below hb6 HX.out.lt); have HR6 := hide (HR.out.below hb6 HR.out.lt); have HB6 := hide (HB.out.trans (hb6.mono HB.out.size)); clear hb6; rw [HQ.out]))
          go_roundw
          case rel => exact ⟨k + 1, by omega, by go_num, HN2.out, HX6.out, HR6.out, HB6.out⟩
          case measure => simp [intOf]; omega
        | true =>
          have HQ := hide hq
          have HCy := hide ((HVia.out k).1 hq)
          have HFin := hide (fun far (hI : FarI (bitE M) k far) => show cycO (n : Int) xs = backL (bitE M) far k from by
            have h1 := HCy.out
            rw [HME.out] at hI h1 ⊢
            refine cyc_hit HV.out hlt h1 (fun j hj l hw => ?_) hI
            have h2 := (HVia.out j).2 ⟨l, by rw [HME.out]; exact hw⟩
            rw [HNo.out j hj] at h2
            cases h2)
          clear hq
          go_wp2_with (first | (refine wpList_load_row rfl 44 (.tmp 6) rfl g2 rfl 44 _ (0, 0) _ HR.out Tryd.underlying44 rfl infoMat ?_) | (go_at_call 22; refine (has_ R k k hk6 hk6 (HRl.out _) _).mono ?_; rintro e w6 ⟨rfl, hb6⟩; have HX6 := hide (HX.out.below hb6 HX.out.lt); have HB6 := hide (HB.out.trans (hb6.mono HB.out.size)); clear hb6; rw [HQ.out]) | (refine wpList_load_row rfl 44 (.tmp 5) rfl g rfl 44 _ (0, 0) _ HX6.out Tryd.underlying44 rfl infoMat ?_) | (go_at_call 26; refine (back_any M k _ HMl.out hk6 (by rw [HME.out]; exact HEin.out) HCy.out).mono ?_; rintro e w7 ⟨v7, far, rfl, hfar, hO7, hb7⟩; have HF7 := hide (HFin.out far hfar); have HO7 := hide hO7; have HB7 := hide (HB6.out.trans (hb7.mono HB6.out.size)); clear hfar hO7 hb7))
          go_ret
          exact ⟨_, rfl, by rw [HF7.out]; exact HO7.out.mono (fun b h => ⟨Nat.le_trans HB6.out.size h.1, h.2⟩) (fun _ _ => rfl), HB7.out⟩
      · have hkn : ¬ (k : Int) < (n : Int) := by omega
        have HFin := hide (show cycO (n : Int) xs = [] from cyc_none HV.out (fun i hi l hw => by
          have h2 := (HVia.out i).2 ⟨l, by rw [HME.out]; exact hw⟩
          rw [HNo.out i (by omega)] at h2
          cases h2))
        go_wp2_with fail
        go_ret
        exact ⟨_, rfl, by rw [HFin.out]; exact ⟨0, Hold.nil 0⟩, HB.out⟩
end Go.Proofs.YtnlicjgegclilaaDoor
