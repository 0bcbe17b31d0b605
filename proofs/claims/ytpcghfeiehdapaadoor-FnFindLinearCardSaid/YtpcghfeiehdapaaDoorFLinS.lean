/- The reference's FindLinear. -/
import Derived.Test.YtpcghfeiehdapaaDoorFLinG
import Derived.Test.YtpcghfeiehdapaaDoorLinS
import Derived.Test.YtpcghfeiehdapaaDoorOrders
namespace Go.Proofs.YtpcghfeiehdapaaDoor
open Go.RowKit
set_option linter.unusedVariables false
set_option linter.unusedSimpArgs false

set_option maxRecDepth 10000 in
set_option maxHeartbeats 2000000 in
theorem specFindLinear (xs : List Call) (A : Option Addr) (c : Nat) (w : World) (hm : xs.length ≤ 1048576) (hA : Row tCall w (Old w) A xs) :
    Calls Tryd.prog 12 #[.slice A xs.length c] w fun e w' => ∃ v, e = .returned (.tuple #[v, .bool (flB xs)]) ∧ Sl tInt w' (New w w') (flR xs) v ∧ Below w.heap.size w w' := by
  have HC := hide (specCallsValid xs A c w (by omega) hA)
  have HNm := hide (fun W => specNums xs.length W hm)
  have HNl := hide (nums_len xs.length)
  have HLr := hide (fun (o : List Int) (ho : o.length ≤ 1048576) (W : World) (B : Option Addr) (d : Nat) (hb : Below w.heap.size w W) (h2 : Row tInt W (Old W) B o) => specLinearRight xs o A B c d W hm ho (hA.old hb) h2)
  clear hA
  cases hv : callsV xs with
  | false =>
    have HF := hide (show flF xs = none by unfold flF; rw [hv]; rfl)
    rw [hv] at HC
    clear hv
    go_enter Tryd.func12, Tryd.ntmps12
    go_wp2_with (go_at_call 21; refine HC.out.mono ?_; rintro e w2 ⟨rfl, hb2⟩)
    go_ret2
    refine ⟨_, by unfold flB; rw [HF.out]; rfl, by unfold flR; rw [HF.out]; exact ⟨_, 0, rfl, Nat.le_refl _, by simp [maxLen], fun h => absurd h (by simp)⟩, hb2.trans ((Below.refl _ w2).alloc (Nat.le_refl _) _ |>.mono hb2.size)⟩
  | true =>
    have h6 := callsV_len hv
    have HF := hide (flF_find xs hv)
    rw [hv] at HC
    have hDl : (nums xs.length).length ≤ 6 := by rw [HNl.out]; exact h6
    have HMl := hide (show (permsI (nums xs.length).length (nums xs.length)).length ≤ 40320 by rw [permsI_len _ _ rfl]; exact fct_le (by omega))
    have HMp := hide (show ∀ o ∈ permsI (nums xs.length).length (nums xs.length), o.Perm (nums xs.length) from fun o ho => permsI_perm (nums_nodup _) ho)
    obtain ⟨D, hD⟩ : ∃ D, D = nums xs.length := ⟨_, rfl⟩
    rw [← hD] at HF HMl HMp hDl HNm
    obtain ⟨M, hM⟩ : ∃ M, M = permsI D.length D := ⟨_, rfl⟩
    rw [← hM] at HF HMl HMp
    have HMe := hide hM
    clear hv hM hD HNl
    go_enter Tryd.func12, Tryd.ntmps12
    go_wp2_with (first | (go_at_call 21; refine HC.out.mono ?_; rintro e w1 ⟨rfl, hb1⟩; have HB1 := hide hb1; clear hb1) | (go_at_call 17; refine (HNm.out _).mono ?_; rintro e w2 ⟨v2, rfl, hO2, hb2⟩; obtain ⟨A2, c2, rfl, h21, h22, h23⟩ := hO2.sl; have HB2 := hide (HB1.out.trans (hb2.mono HB1.out.size)); have HR2 := hide h23; clear hO2 hb2 h23) | (go_at_call 26; refine (orders_any _ D A2 c2 w2 rfl (by omega) h21 h22 (HR2.out.mono (fun b h => h.2) (fun _ _ => rfl))).mono ?_; rintro e w4 ⟨v3, rfl, hO3, hb3⟩; rw [← HMe.out] at hO3; obtain ⟨A3, c3, rfl, h31, h32, h33⟩ := hO3.weakIntS.sl; have HR3 := hide (h33.mono (S' := New w w4) (fun b h => ⟨Nat.le_trans HB2.out.size h.1, h.2⟩) (fun _ _ => rfl)); have HB3 := hide (HB2.out.trans (hb3.mono HB2.out.size)); clear hO3 hb3 h33))
    have hMl := HMl.out
    go_loopw [5] (fun i wr => ∃ k : Nat, k ≤ M.length ∧ i = .int .i64 k ∧ Hid ((M.take k).find? (linB xs) = none) ∧ Hid (Below w4.heap.size w4 wr)) (fun i _ => M.length - (intOf i).toNat)
    case atStart => exact ⟨0, Nat.zero_le _, rfl, rfl, Below.refl _ _⟩
    case round =>
      obtain ⟨k, hk, rfl, hN, hb⟩ := hrel
      by_cases hlt : k < M.length
      · have Hb := hide hb.out
        have HFt := hide (find_take (linB xs) M k hlt hN.out)
        have HRw := hide (HR3.out.mono (w' := wr) (S' := New w w4) (fun _ h => h) (fun b h => Hb.out.block b h.2))
        obtain ⟨b, off, A5, c5, rfl, hbS, c0, h51, h52, hR5⟩ := at_IntSG HRw.out hlt
        have HR5 := hide hR5
        have hpm := HMp.out _ (List.getElem_mem hlt)
        have hol : M[k].length ≤ 6 := by rw [hpm.length_eq]; exact hDl
        have HBw := hide (HB3.out.trans (Hb.out.mono HB3.out.size))
        have HRu := hide (HLr.out M[k] (by omega) wr A5 c5 HBw.out (hR5.mono (fun b h => Nat.lt_of_lt_of_le h.2 Hb.out.size) (fun _ _ => rfl)))
        have HcW := hide (fun (W : World) (hW : Below wr.heap.size wr W) => (hW.cell (p := ⟨b, off + k, none⟩) (Nat.lt_of_lt_of_le hbS.2 Hb.out.size)).trans c0)
        have HBl := hide Hb.out.size
        have hkM : M[k].length ≤ 9223372036854775807 := by omega
        clear hpm hR5 hN hb hbS
        cases hr : linB xs M[k] with
        | false =>
          have HG := hide (HFt.out.1 hr)
          rw [hr] at HRu
          clear hr
          go_wp2_with (go_at_call 8; refine HRu.out.mono ?_; rintro e w5 ⟨rfl, hb5⟩; have HB5 := hide (Hb.out.trans (hb5.mono Hb.out.size)); clear hb5)
          go_roundw
          case rel => exact ⟨k + 1, by omega, by go_num, HG.out, HB5.out⟩
          case measure => simp [intOf]; omega
        | true =>
          have HG := hide (HFt.out.2 hr)
          have HRes := hide (show flF xs = some M[k] from HF.out.trans HG.out)
          rw [hr] at HRu
          clear hr
          go_wp2_with (go_at_call 8; refine HRu.out.mono ?_; rintro e w6 ⟨rfl, hb5⟩; have HB6 := hide hb5; have e0 := HcW.out w6 hb5; clear hb5)
          go_ret2
          have hz := HBl.out
          refine ⟨_, by unfold flB; rw [HRes.out]; rfl, ?_, HBw.out.trans (HB6.out.mono HBw.out.size)⟩
          unfold flR
          rw [HRes.out]
          exact ⟨A5, c5, rfl, h51, h52, fun hp => (HR5.out.mono (S' := New w w6) (fun b h => ⟨h.1, Nat.lt_of_lt_of_le h.2 (Nat.le_trans hz HB6.out.size)⟩) (fun b h => HB6.out.block b (Nat.lt_of_lt_of_le h.2 hz))) hp⟩
      · obtain rfl : k = M.length := by omega
        have HRes := hide (show flF xs = none by rw [HF.out]; have := hN.out; rwa [List.take_length] at this)
        have HBw := hide (HB3.out.trans (hb.out.mono HB3.out.size))
        clear hN hb
        go_wp2_with fail
        go_ret2
        refine ⟨_, by unfold flB; rw [HRes.out]; rfl, by unfold flR; rw [HRes.out]; exact ⟨_, 0, rfl, Nat.le_refl _, by simp [maxLen], fun h => absurd h (by simp)⟩, HBw.out.trans ((Below.refl _ _).alloc (Nat.le_refl _) _ |>.mono HBw.out.size)⟩
end Go.Proofs.YtpcghfeiehdapaaDoor
