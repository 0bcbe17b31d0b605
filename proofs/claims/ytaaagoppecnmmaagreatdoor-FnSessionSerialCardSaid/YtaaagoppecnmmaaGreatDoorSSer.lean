/- The reference's SessionSerial. -/
import Derived.Test.YtaaagoppecnmmaaGreatDoorSesM
import Derived.Test.YtaaagoppecnmmaaGreatDoorOrders
import Derived.Test.YtaaagoppecnmmaaGreatDoorFollow
namespace Go.Proofs.YtaaagoppecnmmaaGreatDoor
open Go.RowKit
set_option linter.unusedVariables false
set_option linter.unusedSimpArgs false

/-- What is asked of an order here. -/
def serP (h : List Txn) (o : List Int) : Bool := runsOK h o && fwdB o (sEdges h h.length)
theorem sesF_find (h : List Txn) (hv : histV h = true) : sesF h = (permsI (doneL h).length (doneL h)).find? (serP h) := by
  unfold sesF
  have h1 : firstGood (goodR (sesAlw h) h) (doneL h) = firstGood (serP h) (doneL h) := firstGood_ext (doneI_nodup h _) (fun o ho => sesGood h o ho)
  rw [if_pos hv, h1]
  rfl
set_option maxRecDepth 10000 in
set_option maxHeartbeats 2000000 in
theorem specSessionSerial (xs : List Txn) (A : Option Addr) (c : Nat) (w : World) (hm : xs.length ≤ maxLen) (ht : opsN xs ≤ 1048576) (hA : Row tTxn w (Old w) A xs) :
    Calls Tryz.prog 15 #[.slice A xs.length c] w fun e w' => ∃ v, e = .returned (.tuple #[v, .bool (sesB xs)]) ∧ Sl tInt w' (New w w') (sesR xs) v ∧ Below w.heap.size w w' := by
  have HC := hide (specHistoryValid xs A c w hm hA ht)
  have HD := hide (fun (W : World) (hb : Below w.heap.size w W) => specDoneTxns xs A c W hm ht (hA.old hb))
  have HE := hide (fun (hv : histV xs = true) (W : World) (hb : Below w.heap.size w W) => specSessionEdges xs A c W hv hm ht (hA.old hb))
  have HA := hide hA
  have HM := hide hm
  clear hA hm ht
  cases hv : histV xs with
  | false =>
    have HF := hide (show sesF xs = none by unfold sesF; rw [hv]; rfl)
    rw [hv] at HC
    clear hv
    go_enter Tryz.func15, Tryz.ntmps15
    go_wp2_with (go_at_call 32; refine HC.out.mono ?_; rintro e w2 ⟨rfl, hb2⟩)
    go_ret2
    refine ⟨_, by unfold sesB; rw [HF.out]; rfl, by unfold sesR; rw [HF.out]; exact ⟨_, 0, rfl, Nat.le_refl _, by simp [maxLen], fun h => absurd h (by simp)⟩, hb2.trans ((Below.refl _ w2).alloc (Nat.le_refl _) _ |>.mono hb2.size)⟩
  | true =>
    have h6 := (histV_parts hv).1
    have hts := (histV_parts hv).2
    have HF := hide (sesF_find xs hv)
    have hDl : (doneL xs).length ≤ 6 := Nat.le_trans (doneI_len xs _) h6
    have HDr := hide (show doneR xs = doneL xs by unfold doneR; rw [hv]; rfl)
    have HE2 := hide (HE.out hv)
    rw [hv] at HC
    have HMl := hide (show (permsI (doneL xs).length (doneL xs)).length ≤ 40320 by rw [permsI_len _ _ rfl]; exact fct_le (by omega))
    have HMp := hide (show ∀ o ∈ permsI (doneL xs).length (doneL xs), o.Perm (doneL xs) from fun o ho => permsI_perm (doneI_nodup xs _) ho)
    have HOk := hide (fun t (ht : t ∈ xs) => (txnOk_parts (hts t ht)).1)
    obtain ⟨M, hM⟩ : ∃ M, M = permsI (doneL xs).length (doneL xs) := ⟨_, rfl⟩
    rw [← hM] at HF HMl HMp
    have HMe := hide hM
    clear hv hM hts HE
    rw [HDr.out] at HD
    go_enter Tryz.func15, Tryz.ntmps15
    go_wp2_with (first | (go_at_call 32; refine HC.out.mono ?_; rintro e w1 ⟨rfl, hb1⟩; have HB1 := hide hb1; clear hb1) | (go_at_call 35; refine (HD.out _ HB1.out).mono ?_; rintro e w2 ⟨v2, rfl, hO2, hb2⟩; obtain ⟨A2, c2, rfl, h21, h22, h23⟩ := hO2.sl; have HB2 := hide (HB1.out.trans (hb2.mono HB1.out.size)); have HR2 := hide h23; clear hO2 hb2 h23) | (go_at_call 34; refine (orders_any _ (doneL xs) A2 c2 w2 rfl (by omega) h21 h22 (HR2.out.mono (fun b h => h.2) (fun _ _ => rfl))).mono ?_; rintro e w3 ⟨v3, rfl, hO3, hb3⟩; rw [← HMe.out] at hO3; obtain ⟨A3, c3, rfl, h31, h32, h33⟩ := hO3.weakIntS.sl; have HR3 := hide (h33.mono (S' := New w w3) (fun b h => ⟨Nat.le_trans HB2.out.size h.1, h.2⟩) (fun _ _ => rfl)); have HB3 := hide (HB2.out.trans (hb3.mono HB2.out.size)); clear hO3 hb3 h33) | (go_at_call 43; refine (HE2.out _ HB3.out).mono ?_; rintro e w4 ⟨v4, rfl, hO4, hb4⟩; obtain ⟨A4, c4, rfl, h41, h42, h43⟩ := hO4.sl; have HR4 := hide h43; have HB4 := hide hb4; clear hO4 hb4 h43))
    have HR3 := hide (HR3.out.mono (S' := New w w3) (fun _ h => h) (fun b h => HB4.out.block b h.2))
    have HBa := hide (HB3.out.trans (HB4.out.mono HB3.out.size))
    have hs34 := HB4.out.size
    have HR4 := hide (HR4.out.mono (S' := Old w4) (fun b h => h.2) (fun _ _ => rfl))
    have hes := sEdges_len xs xs.length
    have hMl := HMl.out
    go_loopw [6] (fun i wr => ∃ k : Nat, k ≤ M.length ∧ i = .int .i64 k ∧ Hid ((M.take k).find? (serP xs) = none) ∧ Hid (Below w4.heap.size w4 wr)) (fun i _ => M.length - (intOf i).toNat)
    case atStart => exact ⟨0, Nat.zero_le _, rfl, rfl, Below.refl _ _⟩
    case round =>
      obtain ⟨k, hk, rfl, hN, hb⟩ := hrel
      by_cases hlt : k < M.length
      · have Hb := hide hb.out
        have HFt := hide (find_take (serP xs) M k hlt hN.out)
        have HRw := hide (HR3.out.mono (w' := wr) (S' := New w w3) (fun _ h => h) (fun b h => Hb.out.block b (Nat.lt_of_lt_of_le h.2 hs34)))
        obtain ⟨b, off, A5, c5, rfl, hbS, c0, h51, h52, hR5⟩ := at_IntSG HRw.out hlt
        have HR5 := hide hR5
        have hpm := HMp.out _ (List.getElem_mem hlt)
        have hol : M[k].length ≤ 6 := by rw [hpm.length_eq]; exact hDl
        have HBw := hide (HBa.out.trans (Hb.out.mono HBa.out.size))
        have HRu := hide (specRuns xs M[k] A A5 c c5 wr HM.out (Nat.le_trans h51 h52) (fun n hn => doneI_mem xs _ n (hpm.mem_iff.1 hn)) HOk.out (HA.out.old HBw.out) (hR5.mono (fun b h => Nat.lt_of_lt_of_le h.2 (Nat.le_trans hs34 Hb.out.size)) (fun _ _ => rfl)))
        have HFw := hide (fun (W : World) (hW : Below wr.heap.size wr W) => specForward M[k] (sEdges xs xs.length) A5 A4 c5 c4 W (Nat.le_trans h51 h52) (by simp only [maxLen]; omega) (hR5.mono (S' := Old W) (fun b h => Nat.lt_of_lt_of_le h.2 (Nat.le_trans (Nat.le_trans hs34 Hb.out.size) hW.size)) (fun b h => hW.block b (Nat.lt_of_lt_of_le h.2 (Nat.le_trans hs34 Hb.out.size)))) (HR4.out.old (Hb.out.trans (hW.mono Hb.out.size))))
        have HcW := hide (fun (W : World) (hW : Below wr.heap.size wr W) => (hW.cell (p := ⟨b, off + k, none⟩) (Nat.lt_of_lt_of_le hbS.2 (Nat.le_trans hs34 Hb.out.size))).trans c0)
        have HBl := hide (Nat.le_trans hs34 Hb.out.size)
        have hkM : M[k].length ≤ 9223372036854775807 := by omega
        clear hpm hR5 hN hb hbS
        cases hr : runsOK xs M[k] with
        | false =>
          have HG := hide (HFt.out.1 (by unfold serP; rw [hr]; rfl))
          rw [hr] at HRu
          clear hr
          go_wp2_with (go_at_call 36; refine HRu.out.mono ?_; rintro e w5 ⟨rfl, hb5⟩; have HB5 := hide (Hb.out.trans (hb5.mono Hb.out.size)); clear hb5)
          go_roundw
          case rel => exact ⟨k + 1, by omega, by go_num, HG.out, HB5.out⟩
          case measure => simp [intOf]; omega
        | true =>
          cases hf : fwdB M[k] (sEdges xs xs.length) with
          | false =>
            have HG := hide (HFt.out.1 (by unfold serP; rw [hr, hf]; rfl))
            rw [hr] at HRu
            rw [hf] at HFw
            clear hr hf
            go_wp2_with (first | (go_at_call 36; refine HRu.out.mono ?_; rintro e w5 ⟨rfl, hb5⟩; have HB5 := hide hb5; have d0 := HcW.out w5 hb5; clear hb5) | (go_at_call 44; refine (HFw.out _ HB5.out).mono ?_; rintro e w6 ⟨rfl, hb6⟩; have HB6 := hide (Hb.out.trans ((HB5.out.trans (hb6.mono HB5.out.size)).mono Hb.out.size)); clear hb6))
            go_roundw
            case rel => exact ⟨k + 1, by omega, by go_num, HG.out, HB6.out⟩
            case measure => simp [intOf]; omega
          | true =>
            have HG := hide (HFt.out.2 (by unfold serP; rw [hr, hf]; rfl))
            have HRes := hide (show sesF xs = some M[k] from HF.out.trans HG.out)
            rw [hr] at HRu
            rw [hf] at HFw
            clear hr hf
            go_wp2_with (first | (go_at_call 36; refine HRu.out.mono ?_; rintro e w5 ⟨rfl, hb5⟩; have HB5 := hide hb5; have d0 := HcW.out w5 hb5; clear hb5) | (go_at_call 44; refine (HFw.out _ HB5.out).mono ?_; rintro e w6 ⟨rfl, hb6⟩; have HB6 := hide (HB5.out.trans (hb6.mono HB5.out.size)); have e0 := HcW.out w6 HB6.out; clear hb6))
            go_ret2
            have hz := HBl.out
            refine ⟨_, by unfold sesB; rw [HRes.out]; rfl, ?_, HBw.out.trans (HB6.out.mono HBw.out.size)⟩
            unfold sesR
            rw [HRes.out]
            exact ⟨A5, c5, rfl, h51, h52, fun hp => (HR5.out.mono (S' := New w w6) (fun b h => ⟨h.1, Nat.lt_of_lt_of_le h.2 (Nat.le_trans hz HB6.out.size)⟩) (fun b h => HB6.out.block b (Nat.lt_of_lt_of_le h.2 hz))) hp⟩
      · obtain rfl : k = M.length := by omega
        have HRes := hide (show sesF xs = none by rw [HF.out]; have := hN.out; rwa [List.take_length] at this)
        have HBw := hide (HBa.out.trans (hb.out.mono HBa.out.size))
        clear hN hb
        go_wp2_with fail
        go_ret2
        refine ⟨_, by unfold sesB; rw [HRes.out]; rfl, by unfold sesR; rw [HRes.out]; exact ⟨_, 0, rfl, Nat.le_refl _, by simp [maxLen], fun h => absurd h (by simp)⟩, HBw.out.trans ((Below.refl _ _).alloc (Nat.le_refl _) _ |>.mono HBw.out.size)⟩
theorem sesR_len (xs : List Txn) : (sesR xs).length ≤ 1048576 := by
  unfold sesR sesF
  split
  · rename_i hv
    cases hf : firstGood (goodR (sesAlw xs) xs) (doneL xs) with
    | none => simp
    | some o =>
      have h1 := (firstGood_perm (doneI_nodup xs _) hf).1.length_eq
      have h2 := doneI_len xs xs.length
      have h3 := (histV_parts hv).1
      have h4 : (doneL xs).length ≤ xs.length := h2
      simp only [Option.getD_some]
      omega
  · simp
end Go.Proofs.YtaaagoppecnmmaaGreatDoor
