/- The law FnSessionSerial: sessions stand in order. -/
import Derived.Test.YtaaagoppecnmmaaGreatDoorHKit
import Derived.Test.YtaaagoppecnmmaaGreatDoorSameH
import Derived.Test.YtaaagoppecnmmaaGreatDoorSesNo
import Derived.Test.YtaaagoppecnmmaaGreatDoorSSer
import Derived.Test.YtaaagoppecnmmaaGreatDoorSerO
namespace Go.Proofs.YtaaagoppecnmmaaGreatDoor
open Go.RowKit
set_option linter.unusedVariables false
set_option linter.unusedSimpArgs false

theorem ses_found {xs : List Txn} (hb : sesB xs = true) : serB xs (sesR xs) = true ∧ ∀ p, brkR xs (seoR xs (sesR xs)) p = [] := by
  unfold sesB at hb
  unfold sesR
  cases hf : sesF xs with
  | none => rw [hf] at hb; cases hb
  | some o =>
    unfold sesF at hf
    split at hf
    · rename_i hv
      obtain ⟨h1, h2⟩ := firstGood_perm (doneI_nodup _ _) hf
      unfold goodR at h2
      rw [Bool.and_eq_true] at h2
      have hs : serB xs o = true := by
        unfold serB
        rw [hv, h2.1, (same_iff (show (doneL xs).Nodup from doneI_nodup _ _)).2 h1]; rfl
      refine ⟨hs, fun p => ?_⟩
      rw [Option.getD_some]
      have he : seoR xs o = seos xs o := by unfold seoR; rw [hs]; rfl
      rw [he]
      exact ses_brk hv h1 h2.1 ((step_iff xs o).1 h2.2) p
    · cases hf
theorem ses_not {xs : List Txn} (hb : sesB xs = false) : sesR xs = [] := by
  unfold sesB at hb
  unfold sesR
  cases hf : sesF xs with
  | some o => rw [hf] at hb; cases hb
  | none => rfl
set_option maxRecDepth 10000 in
set_option maxHeartbeats 4000000 in
theorem lawFnSesSer (bs : List Int) (A : Option Addr) (c : Nat) (w : World) (hm : bs.length ≤ maxLen) (hc : bs.length ≤ c) (hcm : c ≤ maxLen) (hA : Row tByte w (Old w) A bs) :
    Calls Tryz.prog 4 #[.slice A bs.length c] w fun e w' => e = .returned (.bool true) ∧ Below w.heap.size w w' := by
  have hq : bs.length ≤ 9223372036854775807 := by simpa [maxLen] using hm
  by_cases hl : bs.length ≤ 1048576
  · have HD := hide (drawSessionSerial bs A c w hl hc hcm hA)
    clear hA
    go_enter Tryz.func4, Tryz.ntmps4
    go_wp2_with fail
    refine HD.out.mono ?_
    rintro e w1 ⟨xs, v, rfl, hS, ho, hb1⟩
    have HB1 := hide hb1
    clear hb1 HD
    obtain ⟨Ax, cx, rfl, hlex, hcmx, hrx⟩ := ho.oldE
    have Hx1 := hide hrx
    clear hrx ho
    obtain ⟨hxm, hx20, hxo, hxn⟩ := hS.le
    have HRl := hide (sesR_len xs)
    have hrm : (sesR xs).length ≤ maxLen := by have := HRl.out; simp only [maxLen]; omega
    go_wp2_with fail
    refine (implSessionSerial xs _ _ w1 hxm Hx1.out).mono ?_
    rintro e w2 ⟨v2, rfl, hT2, hb⟩
    have Hx2 := hide (Hx1.out.old hb)
    have HB2 := hide (HB1.out.trans (hb.mono HB1.out.size))
    clear hb HB1 Hx1
    obtain ⟨Ay, cy, rfl, hley, hcmy, hry⟩ := hT2.sl.fresh
    have Hy2 := hide hry
    clear hry hT2
    go_wp2_with fail
    refine (specSessionSerial xs _ _ w2 hxm hxo Hx2.out).mono ?_
    rintro e w3 ⟨v3, rfl, hT3, hb⟩
    have Hx3 := hide (Hx2.out.old hb)
    have Hy3 := hide (Hy2.out.old hb)
    have HB3 := hide (HB2.out.trans (hb.mono HB2.out.size))
    clear hb HB2 Hx2 Hy2
    obtain ⟨Az, cz, rfl, hlez, hcmz, hrz⟩ := hT3.fresh
    have Hz3 := hide hrz
    clear hrz hT3
    go_wp2_with fail
    refine (sameInts_any (sesR xs) (sesR xs) _ _ _ _ w3 hrm hrm Hy3.out Hz3.out).mono ?_
    rintro e w4 ⟨rfl, hb⟩
    rw [decide_eq_true (rfl : sesR xs = sesR xs)]
    have Hx4 := hide (Hx3.out.old hb)
    have Hy4 := hide (Hy3.out.old hb)
    have Hz4 := hide (Hz3.out.old hb)
    have HB4 := hide (HB3.out.trans (hb.mono HB3.out.size))
    clear hb HB3 Hx3 Hy3 Hz3
    cases hbb : sesB xs with
    | false =>
      have HN := hide (ses_not hbb)
      rw [HN.out] at hrm hley hlez Hy4 Hz4 ⊢
      clear hbb
      go_wp2_with fail
      refine (alive_any _).mono ?_
      rintro e w5 ⟨rfl, hb⟩
      have Hx5 := hide (Hx4.out.old hb)
      have Hy5 := hide (Hy4.out.old hb)
      have Hz5 := hide (Hz4.out.old hb)
      have HB5 := hide (HB4.out.trans (hb.mono HB4.out.size))
      clear hb HB4 Hx4 Hy4 Hz4
      go_wp2_with fail
      go_ret
      exact ⟨rfl, HB5.out⟩
    | true =>
      obtain ⟨hf1, hf2⟩ := ses_found hbb
      have HF1 := hide hf1
      have HF2 := hide hf2
      clear hbb hf1 hf2
      generalize sesR xs = rr at HRl hrm hley hlez HF1 HF2 Hy4 Hz4 ⊢
      have HOl := hide (seoR_len xs rr HRl.out)
      go_wp2_with fail
      refine (implSerialOrders xs rr _ _ _ _ w4 hxm HRl.out Hx4.out Hy4.out).mono ?_
      rintro e w5 ⟨v5, rfl, hT5, hb⟩
      have Hx5 := hide (Hx4.out.old hb)
      have Hy5 := hide (Hy4.out.old hb)
      have Hz5 := hide (Hz4.out.old hb)
      have HB5 := hide (HB4.out.trans (hb.mono HB4.out.size))
      clear hb HB4 Hx4 Hy4 Hz4
      obtain ⟨Aq, cq, rfl, hleq, hcmq, hrq⟩ := hT5.sl.fresh
      have Hq5 := hide hrq
      clear hrq hT5
      generalize seoR xs rr = os at HOl HF2 hleq Hq5 ⊢
      go_wp2_with fail
      refine (implSerialRight xs rr _ _ _ _ w5 hxm HRl.out Hx5.out Hy5.out).mono ?_
      rintro e w6 ⟨rfl, hb⟩
      rw [HF1.out]
      have Hx6 := hide (Hx5.out.old hb)
      have Hy6 := hide (Hy5.out.old hb)
      have Hz6 := hide (Hz5.out.old hb)
      have Hq6 := hide (Hq5.out.old hb)
      have HB6 := hide (HB5.out.trans (hb.mono HB5.out.size))
      clear hb HB5 Hx5 Hy5 Hz5 Hq5
      go_wp2_with fail
      refine (implSessionBreaks xs os 1 _ _ _ _ w6 hxm HOl.out.1 HOl.out.2 Hx6.out Hq6.out).mono ?_
      rintro e w7 ⟨v6, rfl, hT6, hb⟩
      rw [HF2.out] at hT6
      have Hx7 := hide (Hx6.out.old hb)
      have Hy7 := hide (Hy6.out.old hb)
      have Hz7 := hide (Hz6.out.old hb)
      have Hq7 := hide (Hq6.out.old hb)
      have HB7 := hide (HB6.out.trans (hb.mono HB6.out.size))
      clear hb HB6 Hx6 Hy6 Hz6 Hq6
      obtain ⟨Ak, ck, rfl, hlek, hcmk, hrk⟩ := hT6.sl.fresh
      have Hk7 := hide hrk
      clear hrk hT6
      go_wp2_with fail
      refine (implSessionBreaks xs os 2 _ _ _ _ w7 hxm HOl.out.1 HOl.out.2 Hx7.out Hq7.out).mono ?_
      rintro e w8 ⟨v7, rfl, hT7, hb⟩
      rw [HF2.out] at hT7
      have Hx8 := hide (Hx7.out.old hb)
      have Hy8 := hide (Hy7.out.old hb)
      have Hz8 := hide (Hz7.out.old hb)
      have Hq8 := hide (Hq7.out.old hb)
      have Hk8 := hide (Hk7.out.old hb)
      have HB8 := hide (HB7.out.trans (hb.mono HB7.out.size))
      clear hb HB7 Hx7 Hy7 Hz7 Hq7 Hk7
      obtain ⟨Al, cl, rfl, hlel, hcml, hrl⟩ := hT7.sl.fresh
      have Hl8 := hide hrl
      clear hrl hT7
      go_wp2_with fail
      go_ret
      exact ⟨rfl, HB8.out⟩
  · clear hA
    go_enter Tryz.func4, Tryz.ntmps4
    go_wp2_with fail
    go_ret
    exact ⟨rfl, Below.refl _ _⟩
end Go.Proofs.YtaaagoppecnmmaaGreatDoor
