/- The law FnShrinkBad: shrunk histories are bad and least. -/
import Derived.Test.YtaaagoppecnmmaaDoorHKit
import Derived.Test.YtaaagoppecnmmaaDoorSameH
import Derived.Test.YtaaagoppecnmmaaDoorShrI
import Derived.Test.YtaaagoppecnmmaaDoorShrS
import Derived.Test.YtaaagoppecnmmaaDoorFindI
namespace Go.Proofs.YtaaagoppecnmmaaDoor
open Go.RowKit
set_option linter.unusedVariables false
set_option linter.unusedSimpArgs false

theorem findF_ser {xs : List Txn} (hv : histV xs = true) : (findF xs).isSome = serX xs := by
  unfold findF serX; rw [if_pos hv]
theorem findF_not {xs : List Txn} (hv : histV xs = false) : (findF xs).isSome = false := by
  unfold findF; rw [hv]; rfl
theorem badB_not {xs : List Txn} (hb : badB xs = false) : badR xs = [] ∧ (histV xs = false ∨ (histV xs = true ∧ serX xs = true)) := by
  refine ⟨by unfold badR; rw [hb]; rfl, ?_⟩
  unfold badB at hb
  cases hv : histV xs with
  | false => exact .inl rfl
  | true => rw [hv] at hb; exact .inr ⟨rfl, by simpa using hb⟩
theorem badB_is {xs : List Txn} (hb : badB xs = true) : histV xs = true ∧ serX xs = false := by
  unfold badB at hb
  rw [Bool.and_eq_true, Bool.not_eq_true'] at hb
  exact hb
set_option maxRecDepth 10000 in
set_option maxHeartbeats 4000000 in
theorem lawFnShrBad (bs : List Int) (A : Option Addr) (c : Nat) (w : World) (hm : bs.length ≤ maxLen) (hc : bs.length ≤ c) (hcm : c ≤ maxLen) (hA : Row tByte w (Old w) A bs) :
    Calls Tryd.prog 6 #[.slice A bs.length c] w fun e w' => e = .returned (.bool true) ∧ Below w.heap.size w w' := by
  have hq : bs.length ≤ 9223372036854775807 := by simpa [maxLen] using hm
  by_cases hl : bs.length ≤ 1048576
  · have HD := hide (drawShrinkBad bs A c w hl hc hcm hA)
    clear hA
    go_enter Tryd.func6, Tryd.ntmps6
    go_wp2_with fail
    refine HD.out.mono ?_
    rintro e w1 ⟨xs, v, rfl, hS, ho, hb1⟩
    have HB1 := hide hb1
    clear hb1 HD
    obtain ⟨Ax, cx, rfl, hlex, hcmx, hrx⟩ := ho.oldE
    have Hx1 := hide hrx
    clear hrx ho
    obtain ⟨hxm, hx20, hxo, hxn⟩ := hS.le
    go_wp2_with fail
    refine (implShrinkBad xs _ _ w1 hxm Hx1.out).mono ?_
    rintro e w2 ⟨v2, rfl, hT2, hb⟩
    have Hx2 := hide (Hx1.out.old hb)
    have HB2 := hide (HB1.out.trans (hb.mono HB1.out.size))
    clear hb HB1 Hx1
    obtain ⟨Ay, cy, rfl, hley, hcmy, hry⟩ := hT2.sl.fresh
    have Hy2 := hide hry
    clear hry hT2
    go_wp2_with fail
    refine (specShrinkBad xs _ _ w2 hxm hxo Hx2.out).mono ?_
    rintro e w3 ⟨v3, rfl, hT3, hb⟩
    have Hx3 := hide (Hx2.out.old hb)
    have Hy3 := hide (Hy2.out.old hb)
    have HB3 := hide (HB2.out.trans (hb.mono HB2.out.size))
    clear hb HB2 Hx2 Hy2
    obtain ⟨Az, cz, rfl, hlez, hcmz, hrz⟩ := hT3.fresh
    have Hz3 := hide hrz
    clear hrz hT3
    have HBl := hide (badR_len xs)
    have hbm : (badR xs).length ≤ maxLen := by have := HBl.out.1; simp only [maxLen]; omega
    go_wp2_with fail
    refine (sameHistory_any (badR xs) _ _ _ _ w3 hbm (fun t ht => by have := HBl.out.2 t ht; simp only [maxLen]; omega) Hy3.out Hz3.out).mono ?_
    rintro e w4 ⟨rfl, hb⟩
    have Hx4 := hide (Hx3.out.old hb)
    have Hy4 := hide (Hy3.out.old hb)
    have Hz4 := hide (Hz3.out.old hb)
    have HB4 := hide (HB3.out.trans (hb.mono HB3.out.size))
    clear hb HB3 Hx3 Hy3 Hz3
    go_wp2_with fail
    refine (implFindSerial xs _ _ w4 hxm Hx4.out).mono ?_
    rintro e w5 ⟨v5, rfl, _, hb⟩
    have Hx5 := hide (Hx4.out.old hb)
    have Hy5 := hide (Hy4.out.old hb)
    have Hz5 := hide (Hz4.out.old hb)
    have HB5 := hide (HB4.out.trans (hb.mono HB4.out.size))
    clear hb HB4 Hx4 Hy4 Hz4
    cases hbb : badB xs with
    | false =>
      obtain ⟨hb0, hb1⟩ := badB_not hbb
      have HB0 := hide hb0
      rw [HB0.out] at Hy5 Hz5 ⊢
      rcases hb1 with hb1 | ⟨hb1, hb2⟩
      · skip
        have HF := hide (findF_not hb1)
        rw [HF.out]
        have HV := hide hb1
        clear hbb hb0 hb1
        go_wp2_with fail
        refine (implHistoryValid xs _ _ w5 hxm Hx5.out).mono ?_
        rintro e w6 ⟨rfl, hb⟩
        rw [HV.out]
        have Hx6 := hide (Hx5.out.old hb)
        have Hy6 := hide (Hy5.out.old hb)
        have Hz6 := hide (Hz5.out.old hb)
        have HB6 := hide (HB5.out.trans (hb.mono HB5.out.size))
        clear hb HB5 Hx5 Hy5 Hz5
        go_wp2_with fail
        refine (alive_any _).mono ?_
        rintro e w7 ⟨rfl, hb⟩
        have Hx7 := hide (Hx6.out.old hb)
        have Hy7 := hide (Hy6.out.old hb)
        have Hz7 := hide (Hz6.out.old hb)
        have HB7 := hide (HB6.out.trans (hb.mono HB6.out.size))
        clear hb HB6 Hx6 Hy6 Hz6
        go_wp2_with fail
        go_ret
        exact ⟨rfl, HB7.out⟩
      · skip
        have HF := hide ((findF_ser hb1).trans hb2)
        rw [HF.out]
        clear hbb hb0 hb1 hb2
        go_wp2_with fail
        refine (alive_any _).mono ?_
        rintro e w6 ⟨rfl, hb⟩
        have Hx6 := hide (Hx5.out.old hb)
        have Hy6 := hide (Hy5.out.old hb)
        have Hz6 := hide (Hz5.out.old hb)
        have HB6 := hide (HB5.out.trans (hb.mono HB5.out.size))
        clear hb HB5 Hx5 Hy5 Hz5
        go_wp2_with fail
        go_ret
        exact ⟨rfl, HB6.out⟩
    | true =>
      obtain ⟨hv1, hv2, hv3, hv4, hv5, hv6, hv7⟩ := bad_facts hbb
      obtain ⟨hb0, hb1⟩ := badB_is hbb
      have HF := hide ((findF_ser hb0).trans hb1)
      rw [HF.out]
      have HV1 := hide hv1; have HV2 := hide ((findF_ser hv1).trans hv2); have HV3 := hide hv3
      clear hv1 hv2 hv3 hv6 hv7 hbb hb0 hb1
      generalize badR xs = br at HBl hbm HV1 HV2 HV3 hv4 hv5 Hy5 Hz5 ⊢
      go_wp2_with fail
      refine (implFindSerial br _ _ w5 hbm Hy5.out).mono ?_
      rintro e w6 ⟨v6, rfl, _, hb⟩
      rw [HV2.out]
      have Hx6 := hide (Hx5.out.old hb)
      have Hy6 := hide (Hy5.out.old hb)
      have Hz6 := hide (Hz5.out.old hb)
      have HB6 := hide (HB5.out.trans (hb.mono HB5.out.size))
      clear hb HB5 Hx5 Hy5 Hz5
      have hq2 : br.length ≤ 9223372036854775807 := by simpa [maxLen] using hbm
      go_wp2_with fail
      go_loopw [12] (fun i wr => ∃ k : Nat, k ≤ br.length ∧ i = .int .i64 k ∧ Hid (Below w6.heap.size w6 wr)) (fun i _ => br.length - (intOf i).toNat)
      case atStart => exact ⟨0, Nat.zero_le _, rfl, Below.refl _ _⟩
      case round =>
        obtain ⟨k, hk, rfl, hbk⟩ := hrel
        have HBk := hide hbk.out
        have HBw := hide (HB6.out.trans (hbk.out.mono HB6.out.size))
        have HYk := hide (Hy6.out.old hbk.out)
        clear hbk
        by_cases hlt : k < br.length
        · have hd : dropB br (k : Int) = true := by unfold dropB inR; rw [HV1.out]; simp; omega
          have hR : dropR br (k : Int) = dropL br k := by unfold dropR; rw [hd]; rfl
          have HD := hide hd
          have HDR := hide hR
          clear hd hR
          go_wp2_with fail
          refine (implDropTxn br (k : Int) _ _ wr hbm HYk.out).mono ?_
          rintro e wd ⟨vd, rfl, hT, hb⟩
          rw [HD.out]
          rw [HDR.out] at hT
          obtain ⟨Ad, cd, rfl, hled, hcmd, hrd⟩ := hT.sl.oldE
          have HLd := hide (dropI_len br k br.length)
          have hdm : (dropL br k).length ≤ maxLen := by have := HLd.out; unfold dropL; omega
          have HVd := hide (dropL_valid HV1.out k)
          have HSd := hide (HV3.out k hlt)
          have HRd := hide hrd
          have HBd := hide (HBk.out.trans (hb.mono HBk.out.size))
          have HBe := hide (HBw.out.trans (hb.mono HBw.out.size))
          clear hT hb hrd HLd
          go_wp2_with fail
          refine (implFindSerial (dropL br k) _ _ wd hdm HRd.out).mono ?_
          rintro e we ⟨ve, rfl, _, hb⟩
          rw [(findF_ser HVd.out).trans HSd.out]
          have HBf := hide (HBd.out.trans (hb.mono HBd.out.size))
          clear hb
          go_wp2_with fail
          go_roundw
          case rel => exact ⟨k + 1, by omega, by go_num, HBf.out⟩
          case measure => simp [intOf]; omega
        · have hkd : decide ((k : Int) < (br.length : Int)) = false := decide_eq_false (by omega)
          go_wp2_with fail
          refine (implHistoryValid br _ _ wr hbm HYk.out).mono ?_
          rintro e wf ⟨rfl, hb⟩
          rw [HV1.out]
          have HBf := hide (HBw.out.trans (hb.mono HBw.out.size))
          clear hb
          go_wp2_with fail
          go_ret
          exact ⟨rfl, HBf.out⟩
  · clear hA
    go_enter Tryd.func6, Tryd.ntmps6
    go_wp2_with fail
    go_ret
    exact ⟨rfl, Below.refl _ _⟩
end Go.Proofs.YtaaagoppecnmmaaDoor
