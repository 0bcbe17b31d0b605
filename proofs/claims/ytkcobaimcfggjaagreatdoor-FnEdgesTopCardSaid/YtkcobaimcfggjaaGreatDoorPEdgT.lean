/- The law FnEdgesTop: orders without cycles are serial orders. -/
import Derived.Test.YtkcobaimcfggjaaGreatDoorDrawOr
import Derived.Test.YtkcobaimcfggjaaGreatDoorEdgA
import Derived.Test.YtkcobaimcfggjaaGreatDoorTopI
import Derived.Test.YtkcobaimcfggjaaGreatDoorLevI
import Derived.Test.YtkcobaimcfggjaaGreatDoorSerR
namespace Go.Proofs.YtkcobaimcfggjaaGreatDoor
open Go.RowKit
set_option linter.unusedVariables false
set_option linter.unusedSimpArgs false

theorem topR_bd {n : Nat} {xs : List Edge} {s : List Nat × Nat} (h : topR (n : Int) xs = some s) : edgesV (n : Int) xs = true ∧ topD (edgE xs) n n = some s := by
  unfold topR at h
  split at h
  · rename_i hv
    rw [Int.toNat_natCast] at h
    exact ⟨hv, h⟩
  · cases h
theorem topL_in {n : Nat} {xs : List Edge} {r : Option (List Nat × Nat)} (h : topR (n : Int) xs = r) : ∀ x ∈ topL r, ∃ m : Nat, x = (m : Int) ∧ m < n := by
  subst h
  intro x hx
  unfold topL at hx
  cases hr : topR (n : Int) xs with
  | none => rw [hr] at hx; simp at hx
  | some s =>
    rw [hr] at hx
    obtain ⟨hv, ht⟩ := topR_bd hr
    obtain ⟨m, hm, rfl⟩ := List.mem_map.1 (by simpa using hx : x ∈ s.1.map fun n : Nat => (n : Int))
    exact ⟨m, rfl, (topD_ok (edgE_bd hv) n s ht).below m hm⟩
theorem topL_len {n : Nat} {xs : List Edge} {r : Option (List Nat × Nat)} (h : topR (n : Int) xs = r) : (topL r).length ≤ n := by
  subst h
  unfold topL
  cases hr : topR (n : Int) xs with
  | none => simp
  | some s =>
    obtain ⟨hv, ht⟩ := topR_bd hr
    simp [(topD_ok (edgE_bd hv) n s ht).len]
theorem top_law {xs : List Txn} {os : List (List Int)} (ho : ordB xs os = true) (hR : readsB xs = true) {s : List Nat × Nat} (h : topR (xs.length : Int) (edgR xs os) = some s) : serB xs ((topL (some s)).filter (dneOf xs)) = true := by
  obtain ⟨hv, ht⟩ := topR_bd h
  obtain ⟨h1, h2⟩ := top_good ho hR ht
  have e : topL (some s) = s.1.map fun n : Nat => (n : Int) := rfl
  unfold serB
  rw [e, (ord_parts ho).1, h2, (same_iff (show (doneL xs).Nodup from doneI_nodup _ _)).2 h1]; rfl
set_option maxRecDepth 10000 in
set_option maxHeartbeats 4000000 in
theorem lawFnEdgT (bs : List Int) (A : Option Addr) (c : Nat) (w : World) (hm : bs.length ≤ maxLen) (hc : bs.length ≤ c) (hcm : c ≤ maxLen) (hA : Row tByte w (Old w) A bs) :
    Calls Tryz.prog 3 #[.slice A bs.length c] w fun e w' => e = .returned (.bool true) ∧ Below w.heap.size w w' := by
  have hq : bs.length ≤ 9223372036854775807 := by simpa [maxLen] using hm
  by_cases hl : bs.length ≤ 1048576
  · have HD := hide (drawEdgesOf bs A c w hl hc hcm hA)
    clear hA
    go_enter Tryz.func3, Tryz.ntmps3
    go_wp2_with fail
    refine HD.out.mono ?_
    rintro e w1 ⟨xs, os, v, u, rfl, hS, hol, hoo, ho, hu, hb1⟩
    have HB1 := hide hb1
    clear hb1 HD
    obtain ⟨Ax, cx, rfl, hlex, hcmx, hrx⟩ := ho.oldE
    have Hx1 := hide hrx
    clear hrx ho
    obtain ⟨As, cs, rfl, hles, hcms, hrs⟩ := hu.oldE
    have Hs1 := hide hrs
    clear hrs hu
    obtain ⟨hxm, hx20, hxo, hxn⟩ := hS.le
    have hosm : os.length ≤ 1048576 := by omega
    have hosl : ∀ o ∈ os, o.length ≤ 1048576 := fun o h => by have := hoo o h; omega
    obtain ⟨i0, hi, hz0, hz1, hz2⟩ := info_parts infoInt_
    go_wp2_with fail
    refine (implEdgesOf xs os _ _ _ _ w1 hxm hosm hosl Hx1.out Hs1.out).mono ?_
    rintro e w2 ⟨v2, rfl, hT2, hb⟩
    have Hx2 := hide (Hx1.out.old hb)
    have Hs2 := hide (Hs1.out.old hb)
    have HB2 := hide (HB1.out.trans (hb.mono HB1.out.size))
    clear hb HB1 Hx1 Hs1
    obtain ⟨Ay, cy, rfl, hley, hcmy, hry⟩ := hT2.fresh
    have Hy2 := hide hry
    clear hry hT2
    go_wp2_with fail
    refine (specEdgesOf xs os _ _ _ _ w2 hxm hxo hosm hosl Hx2.out Hs2.out).mono ?_
    rintro e w3 ⟨v3, rfl, hT3, hb⟩
    have Hx3 := hide (Hx2.out.old hb)
    have Hs3 := hide (Hs2.out.old hb)
    have Hy3 := hide (Hy2.out.old hb)
    have HB3 := hide (HB2.out.trans (hb.mono HB2.out.size))
    clear hb HB2 Hx2 Hs2 Hy2
    obtain ⟨Az, cz, rfl, hlez, hcmz, hrz⟩ := hT3.fresh
    have Hz3 := hide hrz
    clear hrz hT3
    have HEl := hide (edgR_len xs os)
    go_wp2_with fail
    refine (sameEdges_any (edgR xs os) _ _ _ _ w3 (by have := HEl.out; simp only [maxLen]; omega) Hy3.out Hz3.out).mono ?_
    rintro e w4 ⟨rfl, hb⟩
    have Hx4 := hide (Hx3.out.old hb)
    have Hs4 := hide (Hs3.out.old hb)
    have Hy4 := hide (Hy3.out.old hb)
    have Hz4 := hide (Hz3.out.old hb)
    have HB4 := hide (HB3.out.trans (hb.mono HB3.out.size))
    clear hb HB3 Hx3 Hs3 Hy3 Hz3
    go_wp2_with fail
    refine (implTopOrder (xs.length : Int) (edgR xs os) _ _ w4 (by have := HEl.out; simp only [maxLen]; omega) Hy4.out).mono ?_
    rintro e w5 ⟨v5, rfl, hT5, hb⟩
    have Hx5 := hide (Hx4.out.old hb)
    have Hs5 := hide (Hs4.out.old hb)
    have Hy5 := hide (Hy4.out.old hb)
    have Hz5 := hide (Hz4.out.old hb)
    have HB5 := hide (HB4.out.trans (hb.mono HB4.out.size))
    clear hb HB4 Hx4 Hs4 Hy4 Hz4
    obtain ⟨At, ct, rfl, hlet, hcmt, hrt⟩ := hT5.sl.fresh
    have Ht5 := hide hrt
    clear hrt hT5
    have HTi := hide (topL_in (n := xs.length) (xs := edgR xs os) rfl)
    have HTl := hide (topL_len (n := xs.length) (xs := edgR xs os) rfl)
    have HLw := hide (fun s ho hR h => top_law (xs := xs) (os := os) ho hR (s := s) h)
    cases htop : topR (xs.length : Int) (edgR xs os) with
    | none =>
      rw [htop] at Ht5 HTi HTl
      clear htop
      go_wp2_with fail
      refine (alive_any _).mono ?_
      rintro e w6 ⟨rfl, hb⟩
      have Hx6 := hide (Hx5.out.old hb)
      have Hs6 := hide (Hs5.out.old hb)
      have Hy6 := hide (Hy5.out.old hb)
      have Hz6 := hide (Hz5.out.old hb)
      have Ht6 := hide (Ht5.out.old hb)
      have HB6 := hide (HB5.out.trans (hb.mono HB5.out.size))
      clear hb HB5 Hx5 Hs5 Hy5 Hz5 Ht5
      go_wp2_with fail
      go_ret
      exact ⟨rfl, HB6.out⟩
    | some s9 =>
      rw [htop] at Ht5 HTi HTl
      have HLw2 := hide (fun ho hR => HLw.out s9 ho hR htop)
      clear htop HLw
      go_wp2_with fail
      refine (specOrdersValid xs os _ _ _ _ w5 hxm hxo hosm hosl Hx5.out Hs5.out).mono ?_
      rintro e w6 ⟨rfl, hb⟩
      have Hx6 := hide (Hx5.out.old hb)
      have Hs6 := hide (Hs5.out.old hb)
      have Hy6 := hide (Hy5.out.old hb)
      have Hz6 := hide (Hz5.out.old hb)
      have Ht6 := hide (Ht5.out.old hb)
      have HB6 := hide (HB5.out.trans (hb.mono HB5.out.size))
      clear hb HB5 Hx5 Hs5 Hy5 Hz5 Ht5
      cases hov : ordB xs os with
      | false =>
        clear hov
        go_wp2_with fail
        refine (alive_any _).mono ?_
        rintro e w7 ⟨rfl, hb⟩
        have Hx7 := hide (Hx6.out.old hb)
        have Hs7 := hide (Hs6.out.old hb)
        have Hy7 := hide (Hy6.out.old hb)
        have Hz7 := hide (Hz6.out.old hb)
        have Ht7 := hide (Ht6.out.old hb)
        have HB7 := hide (HB6.out.trans (hb.mono HB6.out.size))
        clear hb HB6 Hx6 Hs6 Hy6 Hz6 Ht6
        go_wp2_with fail
        go_ret
        exact ⟨rfl, HB7.out⟩
      | true =>
        go_wp2_with fail
        refine (implReadsRight xs _ _ w6 hxm Hx6.out).mono ?_
        rintro e w7 ⟨rfl, hb⟩
        have Hx7 := hide (Hx6.out.old hb)
        have Hs7 := hide (Hs6.out.old hb)
        have Hy7 := hide (Hy6.out.old hb)
        have Hz7 := hide (Hz6.out.old hb)
        have Ht7 := hide (Ht6.out.old hb)
        have HB7 := hide (HB6.out.trans (hb.mono HB6.out.size))
        clear hb HB6 Hx6 Hs6 Hy6 Hz6 Ht6
        cases hrr : readsB xs with
        | false =>
          clear hov hrr
          go_wp2_with fail
          refine (alive_any _).mono ?_
          rintro e w8 ⟨rfl, hb⟩
          have Hx8 := hide (Hx7.out.old hb)
          have Hs8 := hide (Hs7.out.old hb)
          have Hy8 := hide (Hy7.out.old hb)
          have Hz8 := hide (Hz7.out.old hb)
          have Ht8 := hide (Ht7.out.old hb)
          have HB8 := hide (HB7.out.trans (hb.mono HB7.out.size))
          clear hb HB7 Hx7 Hs7 Hy7 Hz7 Ht7
          go_wp2_with fail
          go_ret
          exact ⟨rfl, HB8.out⟩
        | true =>
          have HSe := hide (HLw2.out hov hrr)
          clear hov hrr HLw2
          generalize topL (some s9) = L at Ht7 HTi HTl HSe
          have hl8 : L.length ≤ 8 := by have := HTl.out; have := hS.1; omega
          have hqL : L.length ≤ 9223372036854775807 := by omega
          have HO0 := hide (Own.empty (T := tInt) (e := 3) w7 (fun b => w7.heap.size ≤ b) (Nat.le_refl _))
          have HK0 := hide (show Only (fun b => w7.heap.size ≤ b) w7 (w7.alloc (.cells #[] 3)) from Only.of_alloc _ _)
          go_wp2_with fail
          go_loopw [8, 9] (fun v k wr => ∃ kk : Nat, kk ≤ L.length ∧ k = .int .i64 kk ∧ Hid (Own tInt 3 wr (fun b => w7.heap.size ≤ b ∧ Old wr b) ((L.take kk).filter (dneOf xs)) v) ∧ Hid (Only (fun b => w7.heap.size ≤ b) w7 wr)) (fun _ k _ => L.length - (intOf k).toNat)
          case atStart => exact ⟨0, Nat.zero_le _, rfl, HO0.out, HK0.out⟩
          case round =>
            obtain ⟨kk, hkk, rfl, hO, hN⟩ := hrel
            have HO := hide hO.out; have HN := hide hN.out
            clear hO hN HO0 HK0
            by_cases hlt : kk < L.length
            · have hki : (kk : Int) < (L.length : Int) := by omega
              obtain ⟨b, off, hAe, _, c0⟩ := at_Int Ht7.out HN.out.below hlt
              subst hAe
              obtain ⟨m, hme, hml⟩ := HTi.out _ (List.getElem_mem hlt)
              have hmi : (m : Int) < (xs.length : Int) := by omega
              have hm0 : (0 : Int) ≤ (m : Int) := by omega
              obtain ⟨b2, off2, A2, c2, hBe, _, d0, d1, d3, _, _, _⟩ := at_Txn Hx7.out HN.out.below hml
              subst hBe
              have HDt := hide (show (L.take (kk + 1)).filter (dneOf xs) = (L.take kk).filter (dneOf xs) ++ (if xs[m].Done then [(m : Int)] else []) by
                rw [List.take_succ_eq_append_getElem hlt, List.filter_append, hme]
                have := dne_nat hml
                cases hd : xs[m].Done with
                | true => rw [hd] at this; simp [this]
                | false => rw [hd] at this; simp [this])
              have hdl : ((L.take kk).filter (dneOf xs)).length ≤ 8 := Nat.le_trans (List.length_filter_le _ _) (by rw [List.length_take]; omega)
              rw [hme] at c0
              clear hme d0 d1
              cases hdn : xs[m].Done with
              | false =>
                rw [hdn] at HDt d3
                have HD2 := hide (HDt.out.trans (by simp) : (L.take (kk + 1)).filter (dneOf xs) = (L.take kk).filter (dneOf xs))
                clear HDt hdn
                go_wp2_with fail
                go_roundw
                case rel => exact ⟨kk + 1, by omega, by go_num, by rw [HD2.out]; exact HO.out, HN.out⟩
                case measure => simp [intOf]; omega
              | true =>
                rw [hdn] at HDt d3
                have HD2 := hide (HDt.out.trans (by simp) : (L.take (kk + 1)).filter (dneOf xs) = (L.take kk).filter (dneOf xs) ++ [(m : Int)])
                clear HDt hdn
                go_wp2_with (at_builtin; refine wpList_put tInt rfl (.tmp 79) (.tmp 84) 30 rfl 3 i0 _ 8 Tryz.underlying30 hi hz0 hz1 hz2 rfl (by decide) (fun b => w7.heap.size ≤ b) (fun _ => False) ((L.take kk).filter (dneOf xs)) (m : Int) [.int .i64 m] _ rfl HO.out 1 rfl rfl (fun _ h => h.elim) (fun b hb => Nat.le_trans HN.out.size hb) (by simp only [maxLen]; omega) (by omega) ?_; intro v6 w6 hO_ hK_; have HO6 := hide hO_; have HN6 := hide (HN.out.trans hK_); clear hO_ hK_)
                go_roundw
                case rel => exact ⟨kk + 1, by omega, by go_num, by rw [HD2.out]; exact HO6.out, HN6.out⟩
                case measure => simp [intOf]; omega
            · obtain rfl : kk = L.length := by omega
              have hO9 := HO.out
              rw [List.take_length] at hO9
              have hfl : (L.filter (dneOf xs)).length ≤ 1048576 := Nat.le_trans (List.length_filter_le _ _) (by omega)
              obtain ⟨A9, c9, hv9, h91, h92, hr9⟩ := hO9.oldRow
              subst hv9
              have HZr := hide hr9
              have HXr := hide (Hx7.out.old HN.out.below)
              have HBr := hide (HB7.out.trans (HN.out.below.mono HB7.out.size))
              have HQr := hide (implSerialRight xs (L.filter (dneOf xs)) _ _ cx c9 wr hxm hfl HXr.out HZr.out)
              rw [HSe.out] at HQr
              clear hO9 hr9 HO
              go_wp2_with (go_at_call 18; refine HQr.out.mono ?_; rintro e wz ⟨rfl, hbz⟩; have HBz := hide (HBr.out.trans (hbz.mono HBr.out.size)); clear hbz)
              go_ret
              exact ⟨rfl, HBz.out⟩
  · clear hA
    go_enter Tryz.func3, Tryz.ntmps3
    go_wp2_with fail
    go_ret
    exact ⟨rfl, Below.refl _ _⟩
end Go.Proofs.YtkcobaimcfggjaaGreatDoor
