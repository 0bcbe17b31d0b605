/- The law FnFindSnapshot: schedules are found. -/
import Derived.Test.YtaaagoppecnmmaaDoorHKit
import Derived.Test.YtaaagoppecnmmaaDoorSameH
import Derived.Test.YtaaagoppecnmmaaDoorSnapH
import Derived.Test.YtaaagoppecnmmaaDoorSnapDup
import Derived.Test.YtaaagoppecnmmaaDoorFindI
import Derived.Test.YtaaagoppecnmmaaDoorDoneI
namespace Go.Proofs.YtaaagoppecnmmaaDoor
open Go.RowKit
set_option linter.unusedVariables false
set_option linter.unusedSimpArgs false

theorem snap_found {h : List Txn} (hb : snapB h = true) : srB h (snapRR h) = true := by
  unfold snapB at hb
  unfold snapRR
  cases hf : snapFst h with
  | none => rw [hf] at hb; cases hb
  | some o =>
    unfold snapFst at hf
    split at hf
    · rename_i hc
      simp only [Bool.and_eq_true, decide_eq_true_eq] at hc
      obtain ⟨h1, h2⟩ := dfsN_right _ _ _ o rfl hf
      unfold srB
      rw [hc.1.1, hc.1.2, Option.getD_some, h1, h2]
      simp
    · cases hf
theorem snap_not {h : List Txn} (hb : snapB h = false) : snapRR h = [] ∧ ((findF h).isSome = true → histV h = true ∧ 4 < (doneL h).length) := by
  unfold snapB at hb
  unfold snapRR
  cases hf : snapFst h with
  | some o => rw [hf] at hb; cases hb
  | none =>
    refine ⟨rfl, fun hs => ?_⟩
    unfold findF at hs
    cases hv : histV h with
    | false => rw [hv] at hs; cases hs
    | true =>
      rw [hv, if_pos rfl] at hs
      obtain ⟨o, ho⟩ := Option.isSome_iff_exists.1 hs
      obtain ⟨h1, h2⟩ := firstGood_perm (doneI_nodup _ _) ho
      refine ⟨rfl, Nat.lt_of_not_le fun h4 => ?_⟩
      have h5 := dup_right hv h1 h2
      unfold srB at h5
      simp only [Bool.and_eq_true, decide_eq_true_eq] at h5
      unfold snapFst at hf
      rw [h5.1.1.1, h5.1.1.2, decide_eq_true h4] at hf
      simp only [Bool.and_self, if_true] at hf
      have h6 := dfsN_some (h := h) (dup o) [] SS0 h5.2
      rw [h5.1.2, hf] at h6
      cases h6
set_option maxRecDepth 10000 in
set_option maxHeartbeats 4000000 in
theorem lawFnFSnap (bs : List Int) (A : Option Addr) (c : Nat) (w : World) (hm : bs.length ≤ maxLen) (hc : bs.length ≤ c) (hcm : c ≤ maxLen) (hA : Row tByte w (Old w) A bs) :
    Calls Tryd.prog 8 #[.slice A bs.length c] w fun e w' => e = .returned (.bool true) ∧ Below w.heap.size w w' := by
  have hq : bs.length ≤ 9223372036854775807 := by simpa [maxLen] using hm
  by_cases hl : bs.length ≤ 1048576
  · have HD := hide (drawFindSnapshot bs A c w hl hc hcm hA)
    clear hA
    go_enter Tryd.func8, Tryd.ntmps8
    go_wp2_with fail
    refine HD.out.mono ?_
    rintro e w1 ⟨xs, v, rfl, hS, ho, hb1⟩
    have HB1 := hide hb1
    clear hb1 HD
    obtain ⟨Ax, cx, rfl, hlex, hcmx, hrx⟩ := ho.oldE
    have Hx1 := hide hrx
    clear hrx ho
    obtain ⟨hxm, hx20, hxo, hxn⟩ := hS.le
    have HSl := hide (snapRR_len xs)
    have hsm : (snapRR xs).length ≤ maxLen := by have := HSl.out; simp only [maxLen]; omega
    go_wp2_with fail
    refine (implFindSnapshotR xs _ _ w1 hxm Hx1.out).mono ?_
    rintro e w2 ⟨v2, rfl, hT2, hb⟩
    have Hx2 := hide (Hx1.out.old hb)
    have HB2 := hide (HB1.out.trans (hb.mono HB1.out.size))
    clear hb HB1 Hx1
    obtain ⟨Ay, cy, rfl, hley, hcmy, hry⟩ := hT2.sl.fresh
    have Hy2 := hide hry
    clear hry hT2
    go_wp2_with fail
    refine (specFindSnapshot xs _ _ w2 hxm hxo Hx2.out).mono ?_
    rintro e w3 ⟨v3, rfl, hT3, hb⟩
    have Hx3 := hide (Hx2.out.old hb)
    have Hy3 := hide (Hy2.out.old hb)
    have HB3 := hide (HB2.out.trans (hb.mono HB2.out.size))
    clear hb HB2 Hx2 Hy2
    obtain ⟨Az, cz, rfl, hlez, hcmz, hrz⟩ := hT3.fresh
    have Hz3 := hide hrz
    clear hrz hT3
    go_wp2_with fail
    refine (sameInts_any (snapRR xs) (snapRR xs) _ _ _ _ w3 hsm hsm Hy3.out Hz3.out).mono ?_
    rintro e w4 ⟨rfl, hb⟩
    rw [decide_eq_true (rfl : snapRR xs = snapRR xs)]
    have Hx4 := hide (Hx3.out.old hb)
    have Hy4 := hide (Hy3.out.old hb)
    have Hz4 := hide (Hz3.out.old hb)
    have HB4 := hide (HB3.out.trans (hb.mono HB3.out.size))
    clear hb HB3 Hx3 Hy3 Hz3
    go_wp2_with fail
    refine (implFindSerial xs _ _ w4 hxm Hx4.out).mono ?_
    rintro e w5 ⟨v5, rfl, _, hb⟩
    have Hx5 := hide (Hx4.out.old hb)
    have Hy5 := hide (Hy4.out.old hb)
    have Hz5 := hide (Hz4.out.old hb)
    have HB5 := hide (HB4.out.trans (hb.mono HB4.out.size))
    clear hb HB4 Hx4 Hy4 Hz4
    cases hbb : snapB xs with
    | false =>
      obtain ⟨hn0, hn1⟩ := snap_not hbb
      have HN0 := hide hn0
      rw [HN0.out] at hsm Hy5 Hz5 ⊢
      clear hbb
      cases hff : (findF xs).isSome with
      | false =>
        clear hn0 hn1 hff
        go_wp2_with fail
        refine (alive_any _).mono ?_
        rintro e w6 ⟨rfl, hb⟩
        have Hx6 := hide (Hx5.out.old hb)
        have Hy6 := hide (Hy5.out.old hb)
        have Hz6 := hide (Hz5.out.old hb)
        have HB6 := hide (HB5.out.trans (hb.mono HB5.out.size))
        clear hb HB5 Hx5 Hy5 Hz5
        go_wp2_with fail
        go_ret
        exact ⟨rfl, HB6.out⟩
      | true =>
        obtain ⟨hv, h4⟩ := hn1 hff
        have HD := hide (show doneR xs = doneL xs by unfold doneR; rw [hv]; rfl)
        have hd5 : 4 < (doneR xs).length := by rw [HD.out]; exact h4
        clear hn0 hn1 hff hv h4
        go_wp2_with fail
        refine (implDoneTxns xs _ _ w5 hx20 Hx5.out).mono ?_
        rintro e w6 ⟨v6, rfl, hO6, hb⟩
        have Hx6 := hide (Hx5.out.old hb)
        have Hy6 := hide (Hy5.out.old hb)
        have Hz6 := hide (Hz5.out.old hb)
        have HB6 := hide (HB5.out.trans (hb.mono HB5.out.size))
        clear hb HB5 Hx5 Hy5 Hz5
        obtain ⟨Ad, cd, rfl, hled, hcmd, hrd⟩ := hO6.sl.fresh
        have Hd6 := hide hrd
        clear hrd hO6
        have hd6 : (4 : Int) < ((doneR xs).length : Int) := by omega
        generalize doneR xs = ds at HD hd5 hd6 hled Hd6 ⊢
        go_wp2_with fail
        refine (alive_any _).mono ?_
        rintro e w7 ⟨rfl, hb⟩
        have Hx7 := hide (Hx6.out.old hb)
        have Hy7 := hide (Hy6.out.old hb)
        have Hz7 := hide (Hz6.out.old hb)
        have Hd7 := hide (Hd6.out.old hb)
        have HB7 := hide (HB6.out.trans (hb.mono HB6.out.size))
        clear hb HB6 Hx6 Hy6 Hz6 Hd6
        go_wp2_with fail
        go_ret
        exact ⟨rfl, HB7.out⟩
    | true =>
      have HSf := hide (snap_found hbb)
      clear hbb
      generalize snapRR xs = ss at HSl hsm HSf Hy5 Hz5 ⊢
      go_wp2_with fail
      refine (implSnapshotRight xs ss _ _ _ _ w5 hxm HSl.out Hx5.out Hy5.out).mono ?_
      rintro e w6 ⟨rfl, hb⟩
      rw [HSf.out]
      have Hx6 := hide (Hx5.out.old hb)
      have Hy6 := hide (Hy5.out.old hb)
      have Hz6 := hide (Hz5.out.old hb)
      have HB6 := hide (HB5.out.trans (hb.mono HB5.out.size))
      clear hb HB5 Hx5 Hy5 Hz5
      go_wp2_with fail
      go_ret
      exact ⟨rfl, HB6.out⟩
  · clear hA
    go_enter Tryd.func8, Tryd.ntmps8
    go_wp2_with fail
    go_ret
    exact ⟨rfl, Below.refl _ _⟩
end Go.Proofs.YtaaagoppecnmmaaDoor
