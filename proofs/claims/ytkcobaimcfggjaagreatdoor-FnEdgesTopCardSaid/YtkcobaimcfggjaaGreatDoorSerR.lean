/- The two SerialRight. -/
import Derived.Test.YtkcobaimcfggjaaGreatDoorOrdS
import Derived.Test.YtkcobaimcfggjaaGreatDoorFollow
import Derived.Test.YtkcobaimcfggjaaGreatDoorDone
import Derived.Test.YtkcobaimcfggjaaGreatDoorHMath
namespace Go.Proofs.YtkcobaimcfggjaaGreatDoor
open Go.RowKit
set_option linter.unusedVariables false
set_option linter.unusedSimpArgs false

def serB (h : List Txn) (ns : List Int) : Bool := histV h && (sameB ns (doneL h) && runsOK h ns)
theorem same_in {h : List Txn} {ns : List Int} (hs : sameB ns (doneL h) = true) : ∀ n ∈ ns, 0 ≤ n ∧ n < h.length := fun n hn =>
  doneI_mem h _ n (((same_iff (show (doneL h).Nodup from doneI_nodup h _)).1 hs).mem_iff.1 hn)
theorem same_len {h : List Txn} (hv : histV h = true) {ns : List Int} (hs : sameB ns (doneL h) = true) : ns.length ≤ 6 := by
  have h1 := ((same_iff (show (doneL h).Nodup from doneI_nodup h _)).1 hs).length_eq
  have h2 : (doneL h).length ≤ h.length := doneI_len h _
  have := (histV_parts hv).1
  omega
set_option maxRecDepth 10000 in
set_option maxHeartbeats 2000000 in
theorem specSerialRight (xs : List Txn) (ns : List Int) (A B : Option Addr) (c d : Nat) (w : World) (hm : xs.length ≤ maxLen) (ht : opsN xs ≤ 1048576) (hmn : ns.length ≤ maxLen) (hA : Row tTxn w (Old w) A xs) (hN : Row tInt w (Old w) B ns) :
    Calls Tryz.prog 23 #[.slice A xs.length c, .slice B ns.length d] w fun e w' => e = .returned (.bool (serB xs ns)) ∧ Below w.heap.size w w' := by
  have HC := hide (specHistoryValid xs A c w hm hA ht)
  have HSr := hide (show serB xs ns = (histV xs && (sameB ns (doneL xs) && runsOK xs ns)) from rfl)
  have HDn := hide (fun (W : World) (hb : Below w.heap.size w W) => specDoneTxns xs A c W hm ht (hA.old hb))
  cases hv : histV xs with
  | false =>
    rw [hv] at HC HSr
    clear hv hA hN
    go_enter Tryz.func23, Tryz.ntmps23
    go_wp2_with (go_at_call 65; refine HC.out.mono ?_; rintro e w1 ⟨rfl, hb1⟩; have HB1 := hide hb1; clear hb1)
    go_ret
    exact ⟨ret_bool HSr.out.symm, HB1.out⟩
  | true =>
    have hdl : (doneL xs).length ≤ 6 := Nat.le_trans (doneI_len xs _) (histV_parts hv).1
    have HSa := hide (fun (W : World) (A1 : Option Addr) (c1 : Nat) (hb : Below w.heap.size w W) (h1 : Row tInt W (Old W) A1 (doneL xs)) => specSame ns (doneL xs) B A1 d c1 W hmn (by simp only [maxLen]; omega) (hN.old hb) h1)
    have HRn := hide (fun (hs : sameB ns (doneL xs) = true) (W : World) (hb : Below w.heap.size w W) => specRuns xs ns A B c d W hm hmn (same_in hs) (fun t htx => (txnOk_parts ((histV_parts hv).2 t htx)).1) (hA.old hb) (hN.old hb))
    rw [hv] at HC HSr
    rw [show doneR xs = doneL xs by unfold doneR; rw [hv]; rfl] at HDn
    clear hv hA hN
    generalize doneL xs = D at HDn HSr HSa HRn hdl
    cases hs : sameB ns D with
    | false =>
      rw [hs] at HSr HSa
      clear hs HRn
      go_enter Tryz.func23, Tryz.ntmps23
      go_wp2_with (first | (go_at_call 65; refine HC.out.mono ?_; rintro e w1 ⟨rfl, hb1⟩; have HB1 := hide hb1; clear hb1) | (go_at_call 78; refine (HDn.out _ HB1.out).mono ?_; rintro e w2 ⟨v2, rfl, hO2, hb2⟩; obtain ⟨A2, c2, rfl, h21, h22, h23⟩ := hO2.sl; have HR2 := hide (h23.mono (S' := Old w2) (fun b h => h.2) (fun _ _ => rfl)); have HB2 := hide (HB1.out.trans (hb2.mono HB1.out.size)); clear hb2 hO2 h23) | (go_at_call 63; refine (HSa.out _ _ _ HB2.out HR2.out).mono ?_; rintro e w3 ⟨rfl, hb3⟩; have HB3 := hide (HB2.out.trans (hb3.mono HB2.out.size)); clear hb3))
      go_ret
      exact ⟨ret_bool HSr.out.symm, HB3.out⟩
    | true =>
      have HRn := hide (HRn.out hs)
      rw [hs] at HSr HSa
      clear hs
      go_enter Tryz.func23, Tryz.ntmps23
      go_wp2_with (first | (go_at_call 65; refine HC.out.mono ?_; rintro e w1 ⟨rfl, hb1⟩; have HB1 := hide hb1; clear hb1) | (go_at_call 78; refine (HDn.out _ HB1.out).mono ?_; rintro e w2 ⟨v2, rfl, hO2, hb2⟩; obtain ⟨A2, c2, rfl, h21, h22, h23⟩ := hO2.sl; have HR2 := hide (h23.mono (S' := Old w2) (fun b h => h.2) (fun _ _ => rfl)); have HB2 := hide (HB1.out.trans (hb2.mono HB1.out.size)); clear hb2 hO2 h23) | (go_at_call 63; refine (HSa.out _ _ _ HB2.out HR2.out).mono ?_; rintro e w3 ⟨rfl, hb3⟩; have HB3 := hide (HB2.out.trans (hb3.mono HB2.out.size)); clear hb3) | (go_at_call 79; refine (HRn.out _ HB3.out).mono ?_; rintro e w4 ⟨rfl, hb4⟩; have HB4 := hide (HB3.out.trans (hb4.mono HB3.out.size)); clear hb4))
      go_ret
      exact ⟨ret_bool HSr.out.symm, HB4.out⟩
set_option maxRecDepth 10000 in
set_option maxHeartbeats 2000000 in
theorem implSerialRight (xs : List Txn) (ns : List Int) (A B : Option Addr) (c d : Nat) (w : World) (hm : xs.length ≤ maxLen) (hmn : ns.length ≤ 1048576) (hA : Row tTxn w (Old w) A xs) (hN : Row tInt w (Old w) B ns) :
    Calls Tryz.prog 18 #[.slice A xs.length c, .slice B ns.length d] w fun e w' => e = .returned (.bool (serB xs ns)) ∧ Below w.heap.size w w' := by
  have HC := hide (implHistoryValid xs A c w hm hA)
  have HSr := hide (show serB xs ns = (histV xs && (sameB ns (doneL xs) && runsOK xs ns)) from rfl)
  cases hv : histV xs with
  | false =>
    rw [hv] at HC HSr
    clear hv hA hN
    go_enter Tryz.func18, Tryz.ntmps18
    go_wp2_with (go_at_call 66; refine HC.out.mono ?_; rintro e w1 ⟨rfl, hb1⟩; have HB1 := hide hb1; clear hb1)
    go_ret
    exact ⟨ret_bool HSr.out.symm, HB1.out⟩
  | true =>
    have hx6 : xs.length ≤ 6 := (histV_parts hv).1
    have hdl : (doneL xs).length ≤ 6 := Nat.le_trans (doneI_len xs _) hx6
    have HVl := hide (fun (W : World) => (callsIn_wide (n := 1)).1 (vals_in 1 B ns.length d W))
    have HSo := hide (fun (W : World) (hb : Below w.heap.size w W) => sorted_vals W.heap.size ns B d hmn (W.alloc (.cells #[.slice B ns.length d] 30)) (by simp) (Boxed.new W _ _).cell ((hN.old hb).old ((Below.refl _ W).alloc (Nat.le_refl _) _)))
    have HDn := hide (fun (W : World) (hb : Below w.heap.size w W) => implDone xs A c W (by omega) (hA.old hb))
    have HEq := hide (fun (W : World) (A1 A2 : Option Addr) (c1 c2 : Nat) (h1 : Row tInt W (Old W) A1 (srt ns)) (h2 : Row tInt W (Old W) A2 (doneL xs)) => equal_Int (srt ns) (doneL xs) A1 A2 c1 c2 W (by rw [srt_len]; simp only [maxLen]; omega) (by simp only [maxLen]; omega) h1 h2)
    rw [srt_done xs ns] at HEq
    have HIn := hide (fun hs => same_in (h := xs) (ns := ns) hs)
    have HLn := hide (fun hs => same_len hv (ns := ns) hs)
    have HTx := hide (histV_parts hv).2
    have hqn : ns.length ≤ 9223372036854775807 := by omega
    have hq : xs.length ≤ 9223372036854775807 := by omega
    have hsl : (srt ns).length ≤ 9223372036854775807 := by rw [srt_len]; omega
    rw [hv] at HC HSr
    have HA := hide hA; have HN := hide hN
    clear hv hA hN
    generalize srt ns = Sn at HSo HEq hsl
    generalize doneL xs = D at HDn HSr HEq hdl HIn HLn
    cases hs : sameB ns D with
    | false =>
      rw [hs] at HSr HEq
      clear hs HIn HLn
      go_enter Tryz.func18, Tryz.ntmps18
      go_wp2_with (first | (go_at_call 66; refine HC.out.mono ?_; rintro e w1 ⟨rfl, hb1⟩; have HB1 := hide hb1; clear hb1) | (go_at_call 72; refine (HVl.out _).mono ?_; rintro e w2 ⟨rfl, rfl⟩; have HB2 := hide (HB1.out.alloc HB1.out.size (.cells #[.slice B ns.length d] 30))) | (go_at_call 71; refine (HSo.out _ HB1.out).mono ?_; rintro e w3 ⟨v3, rfl, hO3, hb3⟩; obtain ⟨A3, c3, rfl, h31, h32, h33⟩ := hO3.sl; have HR3 := hide (h33.mono (S' := Old w3) (fun b h => h.2) (fun _ _ => rfl)); have HB3 := hide (HB2.out.trans (hb3.mono HB2.out.size)); clear hb3 hO3 h33) | (go_at_call 52; refine (HDn.out _ HB3.out).mono ?_; rintro e w4 ⟨v4, rfl, hO4, hb4⟩; obtain ⟨A4, c4, rfl, h41, h42, h43⟩ := hO4.sl; have HR4 := hide (h43.mono (S' := Old w4) (fun b h => h.2) (fun _ _ => rfl)); have HR34 := hide (HR3.out.old hb4); have HB4 := hide (HB3.out.trans (hb4.mono HB3.out.size)); clear hb4 hO4 h43) | (go_at_call 70; refine (HEq.out _ _ _ _ _ HR34.out HR4.out).mono ?_; rintro e w5 ⟨rfl, hb5⟩; have HB5 := hide (HB4.out.trans (hb5.below.mono HB4.out.size)); clear hb5))
      go_ret
      exact ⟨ret_bool HSr.out.symm, HB5.out⟩
    | true =>
      have HIn := hide (HIn.out hs)
      have hl6 := HLn.out hs
      rw [hs] at HSr HEq
      clear hs HLn
      go_enter Tryz.func18, Tryz.ntmps18
      go_wp2_with (first | (go_at_call 66; refine HC.out.mono ?_; rintro e w1 ⟨rfl, hb1⟩; have HB1 := hide hb1; clear hb1) | (go_at_call 72; refine (HVl.out _).mono ?_; rintro e w2 ⟨rfl, rfl⟩; have HB2 := hide (HB1.out.alloc HB1.out.size (.cells #[.slice B ns.length d] 30))) | (go_at_call 71; refine (HSo.out _ HB1.out).mono ?_; rintro e w3 ⟨v3, rfl, hO3, hb3⟩; obtain ⟨A3, c3, rfl, h31, h32, h33⟩ := hO3.sl; have HR3 := hide (h33.mono (S' := Old w3) (fun b h => h.2) (fun _ _ => rfl)); have HB3 := hide (HB2.out.trans (hb3.mono HB2.out.size)); clear hb3 hO3 h33) | (go_at_call 52; refine (HDn.out _ HB3.out).mono ?_; rintro e w4 ⟨v4, rfl, hO4, hb4⟩; obtain ⟨A4, c4, rfl, h41, h42, h43⟩ := hO4.sl; have HR4 := hide (h43.mono (S' := Old w4) (fun b h => h.2) (fun _ _ => rfl)); have HR34 := hide (HR3.out.old hb4); have HB4 := hide (HB3.out.trans (hb4.mono HB3.out.size)); clear hb4 hO4 h43) | (go_at_call 70; refine (HEq.out _ _ _ _ _ HR34.out HR4.out).mono ?_; rintro e w5 ⟨rfl, hb5⟩; have HB5 := hide (HB4.out.trans (hb5.below.mono HB4.out.size)); clear hb5))
      generalize hW : w5.alloc _ = W
      have hsW : W.heap.size = w5.heap.size + 1 := by rw [← hW]; simp
      have HBk := hide (show Blk W w5.heap.size 92 (cells3 St0) by rw [← hW]; exact Blk.new w5 _ _)
      have HB6 := hide (show Below w.heap.size w W by rw [← hW]; exact HB5.out.alloc HB5.out.size _)
      have hw5 := HB5.out.size
      clear hW
      go_loopw [7, 22] (fun _ i wr => ∃ (k : Nat) (s : St), k ≤ ns.length ∧ i = .int .i64 k ∧ Hid (runTx xs St0 (ns.take k) = some s) ∧ Hid (Blk wr w5.heap.size 92 (cells3 s)) ∧ Hid (Only (fun b => b = w5.heap.size) W wr)) (fun _ i _ => ns.length - (intOf i).toNat)
      case atStart => exact ⟨0, St0, Nat.zero_le _, rfl, rfl, HBk.out, Only.refl _ _⟩
      case round =>
        obtain ⟨k, s, hk, rfl, hR, hBk, hO⟩ := hrel
        have HR := hide hR.out; have HBk := hide hBk.out; have HO := hide hO.out
        have HBr := hide (below_only HB6.out hO.out HB6.out.size (fun i h => by omega))
        clear hR hBk hO
        by_cases hlt : k < ns.length
        · obtain ⟨b0, off0, rfl, hbS0, c0⟩ := at_Int HN.out HBr.out hlt
          obtain ⟨hn0, hn1⟩ := HIn.out _ (List.getElem_mem hlt)
          obtain ⟨m, hme⟩ : ∃ m : Nat, ns[k] = (m : Int) := ⟨ns[k].toNat, by omega⟩
          have hml : m < xs.length := by omega
          have HTk := hide (fun (s' : St) (h2 : runOps s xs[m].Ops = some s') => runTx_take xs ns k m hlt hme hml s s' HR.out h2)
          have HSp := hide (runTx_stop xs ns k m hlt hme hml s HR.out)
          rw [hme] at c0
          obtain ⟨b, off, A2, c2, rfl, hbS, d0, d1, d3, hj1, hj2, hj3⟩ := at_Txn HA.out (Below.refl _ w) hml
          have e0 := (HBr.out.cell (p := ⟨b, off + m * 3, none⟩) hbS).trans d0
          have e1 := (HBr.out.cell (p := ⟨b, off + m * 3 + 1, none⟩) hbS).trans d1
          have e3 := (HBr.out.cell (p := ⟨b, off + m * 3 + 2, none⟩) hbS).trans d3
          have HFo := hide (follow_any xs[m] s A2 c2 wr w5.heap.size (by omega) (txnOk_parts (HTx.out _ (List.getElem_mem hml))).1 HBk.out (hj3.mono (fun b hb => ⟨Nat.lt_of_lt_of_le hb HBr.out.size, by unfold Old at hb; omega⟩) (fun b hb => HBr.out.block b hb)))
          clear hme hn0 hn1 d0 d1 d3 hj3
          cases hro : runOps s xs[m].Ops with
          | none =>
            rw [hro] at HFo
            have HF := hide (show serB xs ns = false by rw [HSr.out, HSp.out hro]; rfl)
            clear hro HTk HSp
            go_wp2_with (go_at_call 73; refine HFo.out.mono ?_; rintro e w7 ⟨rfl, _, hO7⟩; have HO7 := hide hO7; clear hO7)
            go_ret
            exact ⟨ret_bool HF.out.symm, below_only HBr.out HO7.out HBr.out.size (fun i h => by omega)⟩
          | some s2 =>
            have HT2 := hide (HTk.out s2 hro)
            rw [hro] at HFo
            clear hro HTk HSp
            go_wp2_with (go_at_call 73; refine HFo.out.mono ?_; rintro e w7 ⟨rfl, ⟨s3, hB3, hs3⟩, hO7⟩; have hs4 := hs3 s2 rfl; subst hs4; have HB7 := hide hB3; have HO7 := hide hO7; clear hO7 hB3 hs3)
            go_roundw
            case rel => exact ⟨k + 1, s3, by omega, by go_num, HT2.out, HB7.out, HO.out.trans HO7.out⟩
            case measure => simp [intOf]; omega
        · obtain rfl : k = ns.length := by omega
          have HT := hide (show serB xs ns = true by
            have h9 := HR.out
            rw [List.take_length] at h9
            rw [HSr.out, show runsOK xs ns = true by unfold runsOK; rw [h9]; rfl]; rfl)
          clear HR
          go_wp2_with fail
          go_ret
          exact ⟨ret_bool HT.out.symm, HBr.out⟩
end Go.Proofs.YtkcobaimcfggjaaGreatDoor
