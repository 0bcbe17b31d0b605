/- Every transaction is allowed: the program's anyone. The program's FindSerial. The law FnFindSerial: serial orders are found. Bytes as the argument of a law. -/
import Derived.Test.YtkcobaimcfggjaaGreatDoorQFirst
import Derived.Test.YtkcobaimcfggjaaGreatDoorQAllM
import Derived.Test.YtkcobaimcfggjaaGreatDoorQHMath
import Derived.Test.YtkcobaimcfggjaaGreatDoorQContC
import Derived.Test.YtkcobaimcfggjaaGreatDoorQSerO
import Derived.Test.YtkcobaimcfggjaaGreatDoorQEdgA
import Derived.Test.YtkcobaimcfggjaaGreatDoorQLevI
import Derived.Test.YtkcobaimcfggjaaGreatDoorQRanges
import Derived.Test.YtkcobaimcfggjaaGreatDoorQToA
namespace Go.Proofs.YtkcobaimcfggjaaGreatDoor
open Go.RowKit
set_option linter.unusedVariables false
set_option linter.unusedSimpArgs false

theorem goodR_any (h : List Txn) : goodR (fun _ _ => true) h = runsOK h := by
  funext o
  unfold goodR stepsOK
  simp
theorem serF_good (h : List Txn) : firstGood (goodR (fun _ _ => true) h) (doneL h) = serF h := by
  rw [goodR_any]
  rfl
theorem anyone_any (gone n : Int) (W : World) :
    Calls Tryz.prog 84 #[.int .u64 gone, .int .i64 n] W fun e w' => e = .returned (.bool true) ∧ W = w' := by
  go_enter Tryz.func84, Tryz.ntmps84
  go_wp2_with fail
  go_ret
  exact ⟨rfl, rfl⟩
set_option maxRecDepth 10000 in
set_option maxHeartbeats 1000000 in
theorem implFindSerial (xs : List Txn) (A : Option Addr) (c : Nat) (w : World) (hm : xs.length ≤ maxLen) (hA : Row tTxn w (Old w) A xs) :
    Calls Tryz.prog 27 #[.slice A xs.length c] w (FirstPost (findF xs) w) := by
  have HH := hide (implHistoryValid xs A c w hm hA)
  cases hv : histV xs with
  | false =>
    have HF := hide (show findF xs = none by unfold findF; rw [hv]; rfl)
    rw [hv] at HH
    clear hv hA hm
    go_enter Tryz.func27, Tryz.ntmps27
    go_wp2_with (go_at_call 66; refine HH.out.mono ?_; rintro e w' ⟨rfl, hb'⟩)
    go_ret2
    unfold FirstPost
    rw [HF.out]
    exact ⟨_, rfl, ⟨0, Hold.nil 0⟩, hb'⟩
  | true =>
    rw [hv] at HH
    have HF := hide (show findF xs = serF xs by unfold findF; rw [hv]; rfl)
    have HS := hide (fun (W : World) (hb : Below w.heap.size w W) => firstSerial_any xs A c W (fun _ _ => true) 84 #[] hv (hA.mono (fun b h => Nat.lt_of_lt_of_le h hb.size) (fun b h => hb.block b h)) (enters_of Tryz.func84 (by kernel_rfl) rfl)
      (fun W pre gone n hn hbt _ hb => (anyone_any gone n W).mono fun e w' ⟨h1, h2⟩ => ⟨h1, by rw [← h2]; exact Below.refl _ _⟩))
    rw [serF_good] at HS
    clear hv hA hm
    go_enter Tryz.func27, Tryz.ntmps27
    go_wp2_with (first | (go_at_call 66; refine HH.out.mono ?_; rintro e w1 ⟨rfl, hb1⟩; have HB1 := hide hb1; have HS2 := hide (HS.out w1 hb1); clear hb1) | (go_at_call 83; refine HS2.out.mono ?_; rintro e w2 ⟨v, rfl, hH, hb2⟩))
    go_ret2
    unfold FirstPost
    rw [HF.out]
    exact ⟨v, rfl, hH.imp fun g h => h.mono (fun b hb => ⟨Nat.le_trans HB1.out.size hb.1, hb.2⟩) (fun _ _ => rfl), HB1.out.trans (hb2.mono HB1.out.size)⟩
end Go.Proofs.YtkcobaimcfggjaaGreatDoor
namespace Go.Proofs.YtkcobaimcfggjaaGreatDoor
open Go.RowKit
set_option linter.unusedVariables false
set_option linter.unusedSimpArgs false

theorem seoR_ins {h : List Txn} {o : List Int} (hf : findF h = some o) : seoR h o = insO h o := by
  unfold seoR; rw [findF_serB hf]; rfl
theorem find_noano {h : List Txn} {o : List Int} (hf : findF h = some o) : anoB (h.length : Int) (edgR h (seoR h o)) 4 = false := find_ano hf (seoR_ins hf) 4
theorem find_len {h : List Txn} {o : List Int} (hf : findF h = some o) : o.length ≤ 6 := by
  obtain ⟨hv, hp, _⟩ := findF_some hf
  rw [hp.length_eq]
  exact Nat.le_trans (doneI_len h _) (histV_parts hv).1
theorem nofind_ano {h : List Txn} (hf : findF h = none) (hr : readsB h = true) {k : Nat} (hk : k < (allO h).length) : anoB (h.length : Int) (edgR h (allO h)[k]) 4 = true := by
  have hne : allO h ≠ [] := fun e => by rw [e] at hk; simp at hk
  exact none_ano ((allO_mem hne).1 (List.getElem_mem hk)) hr hf
theorem allO_bd (h : List Txn) (k : Nat) (hk : k < (allO h).length) : (allO h)[k].length ≤ 3 ∧ ∀ o ∈ (allO h)[k], o.length ≤ 6 := by
  have hne : allO h ≠ [] := fun e => by rw [e] at hk; simp at hk
  have hv := (allO_ok.1 hne).1
  have hm := List.getElem_mem hk
  generalize (allO h)[k] = x at hm ⊢
  rw [allO_eq hne] at hm
  exact ⟨Nat.le_of_eq (partO_mlen h 3 x hm), partO_ilen hv 3 x hm⟩
set_option maxRecDepth 10000 in
set_option maxHeartbeats 4000000 in
theorem lawFnFindS (bs : List Int) (A : Option Addr) (c : Nat) (w : World) (hm : bs.length ≤ maxLen) (hc : bs.length ≤ c) (hcm : c ≤ maxLen) (hA : Row tByte w (Old w) A bs) :
    Calls Tryz.prog 5 #[.slice A bs.length c] w fun e w' => e = .returned (.bool true) ∧ Below w.heap.size w w' := by
  have hq : bs.length ≤ 9223372036854775807 := by simpa [maxLen] using hm
  by_cases hl : bs.length ≤ 1048576
  · have HD := hide (drawFindSerial bs A c w hl hc hcm hA)
    clear hA
    go_enter Tryz.func5, Tryz.ntmps5
    go_wp2_with fail
    refine HD.out.mono ?_
    rintro e w1 ⟨xs, v, rfl, hS, hv, hb1⟩
    have HB1 := hide hb1
    clear hb1 HD
    obtain ⟨Ax, cx, rfl, hlex, hcmx, hrx⟩ := hv.oldE
    have Hx1 := hide hrx
    clear hrx hv
    obtain ⟨hxm, hx20, hxo, hxn⟩ := hS.le
    have HI1 := hide (implFindSerial xs Ax cx w1 hxm Hx1.out)
    have HSp := hide (fun (W : World) (hb : Below w1.heap.size w1 W) => specFindSerial xs Ax cx W hxm hxo (Hx1.out.old hb))
    cases hf : findF xs with
    | some o =>
      rw [hf] at HI1 HSp
      have HN := hide (find_noano hf)
      have HSr := hide (findF_serB hf)
      have hol := find_len hf
      have hom : o.length ≤ 1048576 := by omega
      have HCl := hide (seoR_len xs o hom)
      clear hf
      go_wp2_with fail
      refine HI1.out.mono ?_
      rintro e w2 ⟨v2, rfl, hH2, hb⟩
      have HF2 := hide (HSp.out w2 hb)
      have Hx2 := hide (Hx1.out.old hb)
      have HB2 := hide (HB1.out.trans (hb.mono HB1.out.size))
      obtain ⟨Ay, cy, rfl, hley, hcmy, hry⟩ := hH2.sl.fresh
      have Hy2 := hide hry
      simp only [Option.getD_some] at Hy2 hley
      clear hb hry hH2 HI1 HSp HB1 Hx1
      go_wp2_with fail
      refine HF2.out.mono ?_
      rintro e w3 ⟨v3, rfl, hH3, hb⟩
      have Hx3 := hide (Hx2.out.old hb)
      have Hy3 := hide (Hy2.out.old hb)
      have HB3 := hide (HB2.out.trans (hb.mono HB2.out.size))
      obtain ⟨Az, cz, rfl, hlez, hcmz, hrz⟩ := hH3.fresh
      have Hz3 := hide hrz
      simp only [Option.getD_some] at Hz3 hlez
      clear hb hrz hH3 HF2 HB2 Hx2 Hy2
      go_wp2_with fail
      refine (sameInts_any o o _ _ _ _ w3 (by simp only [maxLen]; omega) (by simp only [maxLen]; omega) Hy3.out Hz3.out).mono ?_
      rintro e w4 ⟨rfl, hb⟩
      rw [decide_eq_true (rfl : o = o)]
      have Hx4 := hide (Hx3.out.old hb)
      have Hy4 := hide (Hy3.out.old hb)
      have Hz4 := hide (Hz3.out.old hb)
      have HB4 := hide (HB3.out.trans (hb.mono HB3.out.size))
      clear hb HB3 Hx3 Hy3 Hz3
      go_wp2_with fail
      refine (implSerialOrders xs o _ _ _ _ w4 hxm hom Hx4.out Hy4.out).mono ?_
      rintro e w5 ⟨v9, rfl, hT, hb⟩
      have Hx5 := hide (Hx4.out.old hb)
      have Hy5 := hide (Hy4.out.old hb)
      have Hz5 := hide (Hz4.out.old hb)
      have HB5 := hide (HB4.out.trans (hb.mono HB4.out.size))
      clear hb HB4 Hx4 Hy4 Hz4
      obtain ⟨As, cs, rfl, hles, hcms, hrs⟩ := hT.sl.fresh
      have Hs5 := hide hrs
      clear hrs hT
      go_wp2_with fail
      refine (implEdgesOf xs (seoR xs o) _ _ _ _ w5 hxm HCl.out.1 HCl.out.2 Hx5.out Hs5.out).mono ?_
      rintro e w6 ⟨v9, rfl, hT, hb⟩
      have Hx6 := hide (Hx5.out.old hb)
      have Hy6 := hide (Hy5.out.old hb)
      have Hz6 := hide (Hz5.out.old hb)
      have Hs6 := hide (Hs5.out.old hb)
      have HB6 := hide (HB5.out.trans (hb.mono HB5.out.size))
      clear hb HB5 Hx5 Hy5 Hz5 Hs5
      obtain ⟨Ag, cg, rfl, hleg, hcmg, hrg⟩ := hT.fresh
      have Hg6 := hide hrg
      clear hrg hT
      have HEl := hide (edgR_len xs (seoR xs o))
      generalize edgR xs (seoR xs o) = eg at HN HEl Hg6 hleg ⊢
      go_wp2_with fail
      refine (implSerialRight xs o _ _ _ _ w6 hxm hom Hx6.out Hy6.out).mono ?_
      rintro e w7 ⟨rfl, hb⟩
      rw [HSr.out]
      have Hx7 := hide (Hx6.out.old hb)
      have Hy7 := hide (Hy6.out.old hb)
      have Hz7 := hide (Hz6.out.old hb)
      have Hs7 := hide (Hs6.out.old hb)
      have Hg7 := hide (Hg6.out.old hb)
      have HB7 := hide (HB6.out.trans (hb.mono HB6.out.size))
      clear hb HB6 Hx6 Hy6 Hz6 Hs6 Hg6
      go_wp2_with fail
      refine (implHasAnomaly (xs.length : Int) eg 4 _ _ w7 (by have := HEl.out; simp only [maxLen]; omega) Hg7.out).mono ?_
      rintro e w8 ⟨rfl, hb⟩
      rw [HN.out]
      have Hx8 := hide (Hx7.out.old hb)
      have Hy8 := hide (Hy7.out.old hb)
      have Hz8 := hide (Hz7.out.old hb)
      have Hs8 := hide (Hs7.out.old hb)
      have Hg8 := hide (Hg7.out.old hb)
      have HB8 := hide (HB7.out.trans (hb.mono HB7.out.size))
      clear hb HB7 Hx7 Hy7 Hz7 Hs7 Hg7
      go_wp2_with fail
      go_ret
      exact ⟨rfl, HB8.out⟩
    | none =>
      rw [hf] at HI1 HSp
      have HNa := hide (fun hr (k : Nat) hk => nofind_ano hf hr (k := k) hk)
      clear hf
      go_wp2_with fail
      refine HI1.out.mono ?_
      rintro e w2 ⟨v2, rfl, hH2, hb⟩
      have HF2 := hide (HSp.out w2 hb)
      have Hx2 := hide (Hx1.out.old hb)
      have HB2 := hide (HB1.out.trans (hb.mono HB1.out.size))
      obtain ⟨Ay, cy, rfl, hley, hcmy, hry⟩ := hH2.sl.fresh
      have Hy2 := hide hry
      simp only [Option.getD_none] at Hy2 hley
      clear hb hry hH2 HI1 HSp HB1 Hx1
      go_wp2_with fail
      refine HF2.out.mono ?_
      rintro e w3 ⟨v3, rfl, hH3, hb⟩
      have Hx3 := hide (Hx2.out.old hb)
      have Hy3 := hide (Hy2.out.old hb)
      have HB3 := hide (HB2.out.trans (hb.mono HB2.out.size))
      obtain ⟨Az, cz, rfl, hlez, hcmz, hrz⟩ := hH3.fresh
      have Hz3 := hide hrz
      simp only [Option.getD_none] at Hz3 hlez
      clear hb hrz hH3 HF2 HB2 Hx2 Hy2
      go_wp2_with fail
      refine (sameInts_any [] [] _ _ _ _ w3 (by simp [maxLen]) (by simp [maxLen]) Hy3.out Hz3.out).mono ?_
      rintro e w4 ⟨rfl, hb⟩
      rw [decide_eq_true (rfl : ([] : List Int) = [])]
      have Hx4 := hide (Hx3.out.old hb)
      have Hy4 := hide (Hy3.out.old hb)
      have Hz4 := hide (Hz3.out.old hb)
      have HB4 := hide (HB3.out.trans (hb.mono HB3.out.size))
      clear hb HB3 Hx3 Hy3 Hz3
      go_wp2_with fail
      refine (implAllOrders xs _ _ w4 hxm Hx4.out).mono ?_
      rintro e w5 ⟨v9, rfl, hT, hb⟩
      have Hx5 := hide (Hx4.out.old hb)
      have Hy5 := hide (Hy4.out.old hb)
      have Hz5 := hide (Hz4.out.old hb)
      have HB5 := hide (HB4.out.trans (hb.mono HB4.out.size))
      clear hb HB4 Hx4 Hy4 Hz4
      obtain ⟨As, cs, rfl, hles, hcms, hrs⟩ := hT.fresh
      have Hs5 := hide hrs
      clear hrs hT
      have HLa := hide (allO_bd xs)
      have HL2 := allO_len xs
      have hqa : (allO xs).length ≤ 9223372036854775807 := by omega
      have hqx : xs.length ≤ 9223372036854775807 := by simpa [maxLen] using hxm
      generalize allO xs = all at HNa HLa HL2 hqa Hs5 hles
      obtain ⟨wL, hwL⟩ : ∃ wL : World, wL = w5 := ⟨_, rfl⟩
      rw [← hwL] at HB5 Hx5 Hs5 ⊢
      clear hwL
      go_upto_region 13 with fail
      go_loopw [10] (fun k wr => ∃ kk : Nat, kk ≤ all.length ∧ kk ≤ 30 ∧ k = .int .i64 kk ∧ Hid (Below wL.heap.size wL wr)) (fun k _ => all.length - (intOf k).toNat)
      case atStart => exact ⟨0, Nat.zero_le _, Nat.zero_le _, rfl, Below.refl _ _⟩
      case round =>
        obtain ⟨kk, hkk, hk30, rfl, hb⟩ := hrel
        have HBr := hide hb.out
        clear hb
        have HBz := hide (HB5.out.trans (HBr.out.mono HB5.out.size))
        by_cases hlt : kk < all.length
        · have hki : (kk : Int) < (all.length : Int) := by omega
          by_cases h30 : kk < 30
          · have h30i : (kk : Int) < 30 := by omega
            have HRr := hide (implReadsRight xs Ax cx wr hxm (Hx5.out.old HBr.out))
            cases hrb : readsB xs with
            | false =>
              rw [hrb] at HRr
              clear hrb
              go_wp2_with (first | (go_at_call 16; refine HRr.out.mono ?_; rintro e w9 ⟨rfl, hb9⟩; have HB9 := hide hb9; clear hb9) | (go_at_call 17; refine (alive_any _).mono ?_; rintro e w8 ⟨rfl, hb8⟩; have HB8 := hide hb8; clear hb8))
              go_ret
              exact ⟨rfl, (HBz.out.trans (HB9.out.mono HBz.out.size)).trans (HB8.out.mono (Nat.le_trans HBz.out.size HB9.out.size))⟩
            | true =>
              rw [hrb] at HRr
              have HAn := hide (HNa.out hrb kk hlt)
              clear hrb
              obtain ⟨b7, off7, A7, c7, rfl, hb7, g0, g1, g2, hR7⟩ := at_SliceG Hs5.out hlt
              have HG0 := hide (fun (W : World) (hb : Below wL.heap.size wL W) => (hb.cell (p := ⟨b7, off7 + kk, none⟩) hb7).trans g0)
              have HR7 := hide hR7
              have HL7 := hide (HLa.out kk hlt)
              clear hR7 g0
              generalize all[kk] = os at HAn HG0 g1 HR7 HL7
              have HEl := hide (edgR_len xs os)
              have HEd := hide (fun (W : World) (hb : Below wL.heap.size wL W) => implEdgesOf xs os Ax A7 cx c7 W hxm (by have := HL7.out.1; omega) (fun o ho => by have := HL7.out.2 o ho; omega) (Hx5.out.old hb) (HR7.out.old hb))
              clear HBz
              go_upto_region 15 with (go_at_call 16; refine HRr.out.mono ?_; rintro e w9 ⟨rfl, hb9⟩; have HB9 := hide (HBr.out.trans (hb9.mono HBr.out.size)); clear hb9)
              have g0 := HG0.out _ HB9.out
              have HED := hide (HEd.out _ HB9.out)
              go_wp2_with (first | (go_at_call 11; refine HED.out.mono ?_; rintro e w5 ⟨v5, rfl, hT5, hb5⟩; obtain ⟨A5, c5, rfl, h51, h52, h53⟩ := hT5.fresh; have HR5 := hide h53; have HB5 := hide (HB9.out.trans (hb5.mono HB9.out.size)); clear h53 hb5 hT5) | (go_at_call 30; refine (implHasAnomaly (xs.length : Int) (edgR xs os) 4 A5 c5 w5 (by have := HEl.out; simp only [maxLen]; omega) HR5.out).mono ?_; rintro e w6 ⟨rfl, hb6⟩; rw [HAn.out]; have HB6 := hide (HB5.out.trans (hb6.mono HB5.out.size)); clear hb6))
              go_roundw
              case rel => exact ⟨kk + 1, by omega, by omega, by go_num, HB6.out⟩
              case measure => simp [intOf]; omega
          · obtain rfl : kk = 30 := by omega
            have h30n : ¬ ((30 : Nat) : Int) < 30 := by omega
            go_wp2_with (first | (go_at_call 17; refine (alive_any _).mono ?_; rintro e w8 ⟨rfl, hb8⟩; have HB8 := hide hb8; clear hb8))
            go_ret
            exact ⟨rfl, HBz.out.trans (HB8.out.mono HBz.out.size)⟩
        · obtain rfl : kk = all.length := by omega
          go_wp2_with (first | (go_at_call 17; refine (alive_any _).mono ?_; rintro e w8 ⟨rfl, hb8⟩; have HB8 := hide hb8; clear hb8))
          go_ret
          exact ⟨rfl, HBz.out.trans (HB8.out.mono HBz.out.size)⟩
  · clear hA
    go_enter Tryz.func5, Tryz.ntmps5
    go_wp2_with fail
    go_ret
    exact ⟨rfl, Below.refl _ _⟩
end Go.Proofs.YtkcobaimcfggjaaGreatDoor
namespace Go.Proofs.YtkcobaimcfggjaaGreatDoor
open Go.RowKit Go.ChangeShapes Go.WideShapes Go.Deep
section
variable {H : Type} {enc : TypeId × Value → H} {P : Program} {w : World} {base : Nat} {spare : Nat → Bool} {held : Bool}
theorem elemByte {e : TypeId} (he : P.underlying e = some (.int .u8)) : ∀ n cs y, DataW.trod enc P w base spare held n e cs = some y → ∃ x, tByte.rel w (Old w) x cs := fun _ _ _ h => by
  obtain ⟨n, rfl, _, hw⟩ := DataW.trod_int he h
  have hmin : IntKind.u8.min = 0 := rfl
  have hmax : IntKind.u8.max = 255 := rfl
  simp only [Lit.wf, Bool.and_eq_true, decide_eq_true_eq] at hw
  exact ⟨n, rfl, by omega, by omega⟩
end
end Go.Proofs.YtkcobaimcfggjaaGreatDoor
