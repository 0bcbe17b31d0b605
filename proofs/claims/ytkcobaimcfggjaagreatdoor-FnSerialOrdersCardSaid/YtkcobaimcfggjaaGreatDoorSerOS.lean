/- The reference's SerialOrders. -/
import Derived.Test.YtkcobaimcfggjaaGreatDoorSerO
import Derived.Test.YtkcobaimcfggjaaGreatDoorReadM
namespace Go.Proofs.YtkcobaimcfggjaaGreatDoor
open Go.RowKit
set_option linter.unusedVariables false
set_option linter.unusedSimpArgs false

set_option maxRecDepth 10000 in
set_option maxHeartbeats 4000000 in
theorem specSerialOrders (xs : List Txn) (ns : List Int) (A B : Option Addr) (c d : Nat) (w : World) (hm : xs.length ≤ 1048576) (hn6 : ∀ x ∈ xs, x.Ops.length ≤ 1048576) (ht : opsN xs ≤ 1048576) (hmn : ns.length ≤ 1048576) (hA : Row tTxn w (Old w) A xs) (hN : Row tInt w (Old w) B ns) :
    Calls Tryz.prog 22 #[.slice A xs.length c, .slice B ns.length d] w fun e w' => ∃ v, e = .returned v ∧ Sl (tSlice tInt) w' (New w w') (seoR xs ns) v ∧ Below w.heap.size w w' := by
  obtain ⟨i0, hi, hz0, hz1, hz2⟩ := info_parts infoInt_
  obtain ⟨i1, hi1, hz01, hz11, hz21⟩ := info_parts infoIntS_
  have HOw := hide (ownTxnList xs A c w hm hn6 hA)
  have HSr := hide (fun (W : World) (A1 : Option Addr) (c1 : Nat) (h1 : Row tTxn W (Old W) A1 xs) (h2 : Row tInt W (Old W) B ns) => specSerialRight xs ns A1 B c1 d W (by simp only [maxLen]; omega) ht (by simp only [maxLen]; omega) h1 h2)
  have HR := hide (show seoR xs ns = if serB xs ns then instR xs ns else [] from rfl)
  have HN := hide hN
  clear hA hN
  go_enter Tryz.func22, Tryz.ntmps22
  go_upto_region 2 with (go_at_call 76; refine HOw.out.mono ?_; rintro e w1 ⟨v1, rfl, hO1, hb1⟩; obtain ⟨A1, c1, rfl, h11, h12, hrow⟩ := hO1.weakTxn.sl; have HA1 := hide (hrow.mono (S' := Old w1) (fun b h => h.2) (fun _ _ => rfl)); have HB1 := hide hb1; clear hb1 hO1 hrow)
  have HN1 := hide (HN.out.old HB1.out)
  have hw1 := HB1.out.size
  clear HN HOw
  have HBa := hide ((Below.refl _ w1).alloc (Nat.le_refl _) (.cells #[] 30))
  have HO0 := hide (Own.empty (T := tSlice tInt) (e := 30) w1 (fun b => w1.heap.size ≤ b) (Nat.le_refl _))
  have HSc := hide (HSr.out (w1.alloc (.cells #[] 30)) A1 c1 (HA1.out.old HBa.out) (HN1.out.old HBa.out))
  clear HSr
  cases hs : serB xs ns with
  | false =>
    rw [hs] at HSc HR
    clear hs
    go_wp2_with (go_at_call 23; refine HSc.out.mono ?_; rintro e w2 ⟨rfl, hb2⟩; have HB2 := hide hb2; clear hb2)
    go_ret
    refine ⟨_, rfl, ?_, HB1.out.trans ((HBa.out.trans (HB2.out.mono HBa.out.size)).mono hw1)⟩
    rw [HR.out]
    exact (HO0.out.onlyBelow HB2.out).sl.mono (fun b h => ⟨Nat.le_trans hw1 h.1, h.2⟩) (fun _ _ => rfl)
  | true =>
    rw [hs] at HSc HR
    obtain ⟨hv, hsm, _⟩ := serB_parts hs
    have hl6 := same_len hv hsm
    have HDn := hide (same_in hsm)
    have HTx := hide (histV_parts hv).2
    have hx6 : xs.length ≤ 6 := (histV_parts hv).1
    have hqn : ns.length ≤ 9223372036854775807 := by omega
    have hq : xs.length ≤ 9223372036854775807 := by omega
    clear hs hv hsm
    go_wp2_with (go_at_call 23; refine HSc.out.mono ?_; rintro e w2 ⟨rfl, hb2⟩; have HB2 := hide hb2; clear hb2)
    have HB3 := hide (HBa.out.trans (HB2.out.mono HBa.out.size))
    have HO1 := hide (HO0.out.onlyBelow HB2.out)
    have hz12 : w1.heap.size ≤ w2.heap.size := HB3.out.size
    clear HO0 HBa HB2 HSc
    go_loopw [5, 6, 7, 8, 9, 10] (fun v i _ _ _ _ wr => ∃ k : Nat, k ≤ 3 ∧ i = .int .i64 k ∧ w1.heap.size ≤ wr.heap.size ∧ Hid (Own (tSlice tInt) 30 wr (fun b => w1.heap.size ≤ b ∧ Old wr b) (comK xs ns k) v) ∧ Hid (Below w1.heap.size w1 wr)) (fun _ i _ _ _ _ _ => 3 - (intOf i).toNat)
    case atStart => exact ⟨0, by omega, rfl, hz12, HO1.out, HB3.out⟩
    case round =>
      obtain ⟨k, hk, rfl, hwz, hO, hb⟩ := hrel
      have HO := hide hO.out; have HB := hide hb.out; have HZ := hide hwz
      clear hO hb hwz HO1 HB3 hz12
      by_cases hlt : k < 3
      · have hk2 : decide ((k : Int) ≤ 2) = true := decide_eq_true (by omega)
        have hky : (k : Int) = 0 ∨ (k : Int) = 1 ∨ (k : Int) = 2 := by omega
        have hck := comK_len xs ns k
        obtain ⟨wo, hwo⟩ : ∃ wo : World, wo = wr := ⟨_, rfl⟩
        rw [← hwo] at HO HB HZ ⊢
        clear hwo
        go_wp2_with fail
        have HV0 := hide (Own.empty (T := tInt) (e := 3) wo (fun b => wo.heap.size ≤ b) (Nat.le_refl _))
        have HBv := hide ((Below.refl _ wo).alloc (Nat.le_refl _) (.cells #[] 3))
        go_loopw [7, 8, 9, 10] (fun v i _ _ wr => ∃ j : Nat, j ≤ ns.length ∧ i = .int .i64 j ∧ wo.heap.size ≤ wr.heap.size ∧ Hid (Own tInt 3 wr (fun b => wo.heap.size ≤ b ∧ Old wr b) (instK xs k (ns.take j)) v) ∧ Hid (Below wo.heap.size wo wr)) (fun _ i _ _ _ => ns.length - (intOf i).toNat)
        case atStart => exact ⟨0, Nat.zero_le _, rfl, by simp, HV0.out, HBv.out⟩
        case round =>
          obtain ⟨j, hj, rfl, hwz2, hO2, hb2⟩ := hrel
          have HV := hide hO2.out; have HBw := hide hb2.out; have HZ2 := hide hwz2
          have HBr := hide (HB.out.trans (hb2.out.mono HB.out.size))
          clear hO2 hb2 hwz2 HV0 HBv
          by_cases hlt2 : j < ns.length
          · obtain ⟨b0, off0, rfl, hbS0, e0⟩ := at_Int HN1.out HBr.out hlt2
            obtain ⟨hn0, hn1⟩ := HDn.out _ (List.getElem_mem hlt2)
            obtain ⟨m, hme⟩ : ∃ m : Nat, ns[j] = (m : Int) := ⟨ns[j].toNat, by omega⟩
            have hml : m < xs.length := by omega
            obtain ⟨b, off, A5, c5, hA5, hbS, g0, g1, g3, hj1, hj2, hj3⟩ := at_Txn HA1.out HBr.out hml
            subst hA5
            have HSu := hide (show instK xs (k : Int) (ns.take (j + 1)) = instK xs (k : Int) (ns.take j) ++ (lastW xs[m].Ops (k : Int)).toList.map Op.Value by
              rw [List.take_succ_eq_append_getElem hlt2, instK_append, instK_one, hme]
              unfold opsOf
              rw [Int.toNat_natCast, List.getElem?_eq_getElem hml]; rfl)
            rw [hme] at e0
            have hil := instK_len xs (k : Int) (ns.take j)
            rw [List.length_take] at hil
            have hil2 : (instK xs (k : Int) (ns.take j)).length ≤ 6 := by omega
            clear hil
            have hmi : (m : Int) < (xs.length : Int) := by omega
            have hm0 : (0 : Int) ≤ (m : Int) := by omega
            have hRl := lastWs_len7 xs[m].Ops
            have HFi := hide (lastWs_filter7 xs[m].Ops (k : Int) hky)
            have HLw := hide (specLastWrites xs[m] A5 c5 wr (HTx.out _ (List.getElem_mem hml)) hj3)
            generalize lastWs xs[m].Ops = L at HLw hRl HFi
            generalize instK xs (k : Int) (ns.take j) = V0 at HV HSu hil2
            have hRq : L.length ≤ 9223372036854775807 := by omega
            clear hj3 hn0 hn1 hme
            obtain ⟨wp, hwp⟩ : ∃ wp : World, wp = wr := ⟨_, rfl⟩
            rw [← hwp] at HV HBw HZ2 HBr e0 g0 g1 g3 HLw
            rw [← hwp]
            clear hwp
            go_wp2_with (go_at_call 77; refine HLw.out.mono ?_; rintro e w4 ⟨v4, rfl, hS4, hb4⟩; obtain ⟨A4, c4, rfl, h41, h42, h43⟩ := hS4.sl; have HR4 := hide h43; have HB4 := hide hb4; clear hb4 h43 hS4)
            have hy4 : wp.heap.size ≤ w4.heap.size := HB4.out.size
            have hzo : wo.heap.size ≤ wp.heap.size := HBw.out.size
            have HV4 := hide (HV.out.mono (w' := w4) (S2 := fun b => (wo.heap.size ≤ b ∧ ¬ (wp.heap.size ≤ b ∧ b < w4.heap.size)) ∧ Old w4 b) (fun b hb => ⟨⟨hb.1, fun h9 => by have := hb.2; unfold Old at this; omega⟩, Nat.lt_of_lt_of_le hb.2 hy4⟩) (fun b hb => HB4.out.block b hb.2))
            have HBw4 := hide (HBw.out.trans (HB4.out.mono HBw.out.size))
            clear e0 g0 g1 g3 HV
            go_loopw [7, 10] (fun v i wr => ∃ l : Nat, l ≤ L.length ∧ i = .int .i64 l ∧ Hid (Own tInt 3 wr (fun b => (wo.heap.size ≤ b ∧ ¬ (wp.heap.size ≤ b ∧ b < w4.heap.size)) ∧ Old wr b) (V0 ++ ((L.take l).filter (fun o => o.Key == (k : Int))).map Op.Value) v) ∧ Hid (Only (fun b => wo.heap.size ≤ b ∧ ¬ (wp.heap.size ≤ b ∧ b < w4.heap.size)) w4 wr)) (fun _ i _ => L.length - (intOf i).toNat)
            case atStart => exact ⟨0, Nat.zero_le _, rfl, (by have h9 := HV4.out; rw [← List.append_nil V0] at h9; exact h9), Only.refl _ _⟩
            case round =>
              obtain ⟨l, hl2, rfl, hO2, hOn2⟩ := hrel
              have HO2 := hide hO2.out; have HOw := hide hOn2.out
              clear hO2 hOn2 HV4
              have hzr := HOw.out.size
              by_cases hlt3 : l < L.length
              · have hR6 := HR4.out.mono (w' := wr) (S' := Old wr) (fun b h => Nat.lt_of_lt_of_le h.2 HOw.out.size) (fun b h => HOw.out.block b h.2 (fun h9 => h9.2 h))
                obtain ⟨b4, off4, hA4, hbS4, x0, x1, x2⟩ := at_Op hR6 (Below.refl _ _) hlt3
                subst hA4
                have hli : (l : Int) < (L.length : Int) := by omega
                have HSn := hide (filter_snoc7 L l hlt3 (k : Int))
                have hfl : ((L.take l).filter (fun o => o.Key == (k : Int))).length ≤ 3 := Nat.le_trans (List.length_filter_le _ _) (by rw [List.length_take]; omega)
                have hln : (V0 ++ ((L.take l).filter (fun o => o.Key == (k : Int))).map Op.Value).length ≤ 9 := by rw [List.length_append, List.length_map]; omega
                generalize L[l] = o at x0 x1 x2 HSn
                obtain ⟨kd, ky, vl⟩ := o
                dsimp only at x0 x1 x2 HSn
                have HKs := hide (show ∀ b, wr.heap.size ≤ b → wo.heap.size ≤ b ∧ ¬ (wp.heap.size ≤ b ∧ b < w4.heap.size) from fun b hb => ⟨by omega, fun h9 => by omega⟩)
                clear hR6
                cases hkk : (ky == (k : Int)) with
                | false =>
                  rw [hkk] at HSn
                  have HS2 := hide (show _ = ((L.take l).filter (fun o => o.Key == (k : Int))).map Op.Value from HSn.out.trans (by simp))
                  clear HSn
                  go_wp2_with fail
                  go_roundw
                  case rel => exact ⟨l + 1, by omega, by go_num, by rw [HS2.out]; exact HO2.out, HOw.out⟩
                  case measure => simp [intOf]; omega
                | true =>
                  rw [hkk] at HSn
                  have HS2 := hide (show _ = ((L.take l).filter (fun o => o.Key == (k : Int))).map Op.Value ++ [vl] from HSn.out.trans (by simp))
                  clear HSn
                  go_wp2_with (at_builtin; refine wpList_put tInt rfl (.tmp 51) (.tmp 57) 30 rfl 3 i0 _ 8 Tryz.underlying30 hi hz0 hz1 hz2 rfl (by decide) (fun b => wo.heap.size ≤ b ∧ ¬ (wp.heap.size ≤ b ∧ b < w4.heap.size)) (fun _ => False) (V0 ++ ((L.take l).filter (fun o => o.Key == (k : Int))).map Op.Value) vl [.int .i64 vl] _ rfl HO2.out 1 rfl rfl (fun _ h => h.elim) HKs.out (by simp only [maxLen]; omega) (by omega) ?_; intro v6 w6 hO_ hK_; have HO6 := hide hO_; have HK6 := hide hK_; clear hO_ hK_)
                  go_roundw
                  case rel => exact ⟨l + 1, by omega, by go_num, by rw [HS2.out, ← List.append_assoc]; exact HO6.out, HOw.out.trans HK6.out⟩
                  case measure => simp [intOf]; omega
              · obtain rfl : l = L.length := by omega
                have HO7 := hide (show Own tInt 3 wr (fun b => wo.heap.size ≤ b ∧ Old wr b) (instK xs (k : Int) (ns.take (j + 1))) _ from by
                  have h9 := HO2.out
                  rw [List.take_length, HFi.out, ← HSu.out] at h9
                  exact h9.mono (fun b h => ⟨h.1.1, h.2⟩) (fun _ _ => rfl))
                have HB7 := hide (below_only HBw4.out HOw.out HBw4.out.size (fun i hi => hi.1))
                clear HO2
                go_wp2_with fail
                go_roundw
                case rel => exact ⟨j + 1, by omega, by go_num, HB7.out.size, HO7.out, HB7.out⟩
                case measure => simp [intOf]; omega
          · obtain rfl : j = ns.length := by omega
            have hil := instK_len xs (k : Int) ns
            rw [List.take_length] at HV
            obtain ⟨A6, c6, rfl, h61, h62, -⟩ := HV.out.sl
            have HS6 := hide HV.out.ofBlock.sl
            have HOd := hide HV.out.owned
            have HOo := hide ((HO.out.onlyBelow HBw.out).mono (S2 := fun b => w1.heap.size ≤ b ∧ Old wr b) (fun _ h => h) (fun _ _ => rfl))
            have HOold := hide (HO.out.owned)
            generalize hys : instK xs (k : Int) ns = ys at HV HS6 hil h61 HOd
            generalize hyl : ys.length = n6 at HS6 h61 HOd hil
            have HYs := hide hys; have HYl := hide hyl
            clear hys hyl HV
            go_wp2_with (at_builtin; refine wpList_put (tSlice tInt) rfl (.tmp 59) (.tmp 61) 24 rfl 30 i1 _ 24 Tryz.underlying24 hi1 hz01 hz11 hz21 rfl (by decide) (fun b => w1.heap.size ≤ b) (fun b => (Value.slice A6 n6 c6).ownBlock = some b) (comK xs ns k) ys [.slice A6 n6 c6] _ rfl HOo.out 1 rfl ⟨_, rfl, HS6.out⟩ (fun b h => ⟨Nat.le_trans HZ.out (HOd.out b h).1, (HOd.out b h).2, fun e9 => by have h1 := (HOold.out b e9).2; have h2 := (HOd.out b h).1; unfold Old at h1; omega⟩) (fun b hb => Nat.le_trans HZ.out (Nat.le_trans HBw.out.size hb)) (by simp only [maxLen]; omega) (by omega) ?_; intro v7 w7 hO_ hK_; have HO7 := hide hO_; have HK7 := hide hK_; clear hO_ hK_)
            go_roundw
            case rel => exact ⟨k + 1, by omega, by go_num, Nat.le_trans HBr.out.size HK7.out.size, by rw [comK, HYs.out]; exact HO7.out, below_only HBr.out HK7.out HBr.out.size (fun i hi => hi)⟩
            case measure => simp [intOf]; omega
      · obtain rfl : k = 3 := by omega
        go_wp2_with fail
        go_ret
        refine ⟨_, rfl, ?_, HB1.out.trans (HB.out.mono hw1)⟩
        rw [HR.out]
        exact HO.out.sl.mono (fun b h => ⟨Nat.le_trans hw1 h.1, h.2⟩) (fun _ _ => rfl)
end Go.Proofs.YtkcobaimcfggjaaGreatDoor
