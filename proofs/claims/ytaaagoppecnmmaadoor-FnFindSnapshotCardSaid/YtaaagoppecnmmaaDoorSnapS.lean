/- The reference's SnapshotRight. -/
import Derived.Test.YtaaagoppecnmmaaDoorSnapR
import Derived.Test.YtaaagoppecnmmaaDoorRunsC
namespace Go.Proofs.YtaaagoppecnmmaaDoor
open Go.RowKit Go.Maps
set_option linter.unusedVariables false
set_option linter.unusedSimpArgs false

theorem take_all_true {α : Type} (p : α → Bool) (l : List α) (k : Nat) (hk : k < l.length) (h : (l.take k).all p = true) (hp : p l[k] = true) : (l.take (k + 1)).all p = true := by
  rw [List.take_succ_eq_append_getElem hk, List.all_append, h]
  simp [hp]
theorem srB_two {h : List Txn} {p : List Int} (ht : twoEach h p = false) : srB h p = false := by
  unfold srB
  by_cases hl : p.length = 2 * (doneL h).length
  · have := snap_right h p hl
    rw [ht, Bool.false_and] at this
    rw [← this, Bool.and_false]
  · rw [decide_eq_false hl]; simp
set_option maxRecDepth 10000 in
set_option maxHeartbeats 4000000 in
theorem specSnapshotRight (xs : List Txn) (ns : List Int) (A B : Option Addr) (c d : Nat) (w : World) (hm : xs.length ≤ maxLen) (ht : opsN xs ≤ 1048576) (hmn : ns.length ≤ 1048576) (hd1 : ns.length ≤ d) (hd2 : d ≤ maxLen) (hA : Row tTxn w (Old w) A xs) (hN : Row tInt w (Old w) B ns) :
    Calls Tryd.prog 29 #[.slice A xs.length c, .slice B ns.length d] w fun e w' => e = .returned (.bool (srB xs ns)) ∧ Below w.heap.size w w' := by
  have HD := hide (specDoneTxns xs A c w hm ht hA)
  have HC := hide (fun (W : World) (hb : Below w.heap.size w W) => specHistoryValid xs A c W hm (hA.old hb) ht)
  have hq : xs.length ≤ 9223372036854775807 := by simpa [maxLen] using hm
  have hqn : ns.length ≤ 9223372036854775807 := by omega
  have hmn' : ns.length ≤ maxLen := by simp only [maxLen]; omega
  have HCn := hide (fun (W : World) (n : Int) (hb : Below w.heap.size w W) => l13Count_pure ns n B d W hmn' (hN.old hb))
  have HSr := hide (show srB xs ns = (histV xs && fineB xs && decide (ns.length = 2 * (doneL xs).length) && (snapRun xs SS0 ns).isSome) from rfl)
  cases hv : histV xs with
  | false =>
    rw [hv] at HC HSr
    rw [show doneR xs = [] by unfold doneR; rw [hv]; rfl] at HD
    clear hv hA hN
    go_enter Tryd.func29, Tryd.ntmps29
    go_wp2_with (go_at_call 69; refine HD.out.mono ?_; rintro e w1 ⟨v1, rfl, hO1, hb1⟩; obtain ⟨A1, c1, rfl, h11, h12, _⟩ := hO1.sl; have HB1 := hide hb1; clear hb1 hO1)
    refine wp_loop_rounds 1 ?_
    rw [rounds_succ]
    go_wp2_with (go_at_call 52; refine (HC.out _ HB1.out).mono ?_; rintro e w2 ⟨rfl, hb2⟩; have HB2 := hide (HB1.out.trans (hb2.mono HB1.out.size)); clear hb2)
    go_ret
    exact ⟨ret_bool HSr.out.symm, HB2.out⟩
  | true =>
    have HBo := hide (fun (W : World) (hb : Below w.heap.size w W) => specBadOwn xs A c W hv hm ht (hA.old hb))
    have HRn := hide (fun (W : World) (hin : ∀ n ∈ ns, 0 ≤ n ∧ n < xs.length) (hb : Below w.heap.size w W) => specRuns13 xs ns A B c d W hv hmn hd1 hd2 hin (hA.old hb) (hN.old hb))
    have HTf := hide (fun (h : twoEach xs ns = false) => srB_two (h := xs) (p := ns) h)
    have HTt := hide (fun (h : twoEach xs ns = true) (hl : ns.length = 2 * (doneL xs).length) => (show (∀ n ∈ ns, 0 ≤ n ∧ n < xs.length) ∧ l13R xs ns = (snapRun xs SS0 ns).isSome from
      ⟨fun n hn => doneI_mem xs _ n (twoEach_in hl h n hn), by have := snap_right xs ns hl; rw [h, Bool.true_and] at this; exact this⟩))
    have HTw := hide (show twoEach xs ns = (doneL xs).all (fun d => ns.count d == 2) from rfl)
    have hdl : (doneL xs).length ≤ 6 := Nat.le_trans (doneI_len xs _) (histV_parts hv).1
    have HFi := hide (show fineB xs = ((badS xs).length == 0) from rfl)
    rw [hv] at HC HSr
    rw [show doneR xs = doneL xs by unfold doneR; rw [hv]; rfl] at HD
    clear hv hA hN
    generalize doneL xs = D at HD HSr HTt HTw hdl
    generalize badS xs = Bd at HBo HFi
    have hqD : D.length ≤ 9223372036854775807 := by omega
    go_enter Tryd.func29, Tryd.ntmps29
    go_wp2_with (go_at_call 69; refine HD.out.mono ?_; rintro e w1 ⟨v1, rfl, hO1, hb1⟩; obtain ⟨A1, c1, rfl, h11, h12, h13⟩ := hO1.sl; have HR1 := hide (h13.mono (S' := Old w1) (fun b h => h.2) (fun _ _ => rfl)); have HB1 := hide hb1; clear hb1 hO1 h13)
    go_loopw [6] (fun i wr => wr = w1 ∧ ∃ k : Nat, k ≤ D.length ∧ i = .int .i64 k ∧ Hid ((D.take k).all (fun d => ns.count d == 2) = true)) (fun i _ => D.length - (intOf i).toNat)
    case atStart => exact ⟨rfl, 0, Nat.zero_le _, rfl, rfl⟩
    case round =>
      obtain ⟨rfl, k, hk, rfl, hT⟩ := hrel
      by_cases hlt : k < D.length
      · obtain ⟨b, off, rfl, hbS, e0⟩ := at_Int HR1.out (Below.refl _ _) hlt
        have HCk := hide (HCn.out wr D[k] HB1.out)
        have HT2 := hide (take_all_true (fun d => ns.count d == 2) D k hlt hT.out)
        have HTa := hide (fun (h : (ns.count D[k] == 2) = false) => HTf.out (by rw [HTw.out]; exact all_false hlt h))
        clear hT
        generalize ns.count D[k] = q at HCk HT2 HTa
        cases hq2 : (q == 2) with
        | true =>
          have hqi : ((q : Int) != 2) = false := by rw [beq_iff_eq] at hq2; rw [bne_eq_false_iff_eq]; omega
          have HT3 := hide (HT2.out hq2)
          clear hq2 HT2 HTa
          go_wp2_with (go_at_call 81; refine HCk.out.mono ?_; rintro e w' ⟨rfl, rfl⟩)
          go_roundw
          case rel => exact ⟨trivial, k + 1, by omega, by go_num, HT3.out⟩
          case measure => simp [intOf]; omega
        | false =>
          have hqi : ((q : Int) != 2) = true := by rw [beq_eq_false_iff_ne] at hq2; rw [bne_iff_ne]; omega
          have HF := hide (HTa.out hq2)
          clear hq2 HT2 HTa
          go_wp2_with (go_at_call 81; refine HCk.out.mono ?_; rintro e w' ⟨rfl, rfl⟩)
          go_ret
          exact ⟨ret_bool HF.out.symm, HB1.out⟩
      · obtain rfl : k = D.length := by omega
        have HTT := hide (show twoEach xs ns = true by rw [HTw.out]; have := hT.out; rwa [List.take_length] at this)
        clear hT
        cases hf : (Bd.length == 0) with
        | false =>
          have hfi : ((Bd.length : Int) == 0) = false := by rw [beq_eq_false_iff_ne] at hf ⊢; omega
          have HF := hide (show srB xs ns = false by rw [HSr.out, HFi.out, hf]; rfl)
          clear hf HSr HFi
          go_wp2_with (first | (go_at_call 52; refine (HC.out _ HB1.out).mono ?_; rintro e w2 ⟨rfl, hb2⟩; have HB2 := hide (HB1.out.trans (hb2.mono HB1.out.size)); clear hb2) | (go_at_call 82; refine (HBo.out _ HB2.out).mono ?_; rintro e w3 ⟨v3, rfl, hO3, hb3⟩; obtain ⟨A3, c3, rfl, h31, h32, _⟩ := hO3.sl; have HB3 := hide (HB2.out.trans (hb3.mono HB2.out.size)); clear hb3 hO3))
          go_ret
          exact ⟨ret_bool HF.out.symm, HB3.out⟩
        | true =>
          have hfi : ((Bd.length : Int) == 0) = true := by rw [beq_iff_eq] at hf ⊢; omega
          have HFt := hide (show fineB xs = true by rw [HFi.out, hf])
          clear hf HFi
          by_cases hl : ns.length = 2 * D.length
          · have hli : ((ns.length : Int) == 2 * (D.length : Int)) = true := by rw [beq_iff_eq]; omega
            obtain ⟨hin, hl13⟩ := HTt.out HTT.out hl
            have HQ := hide (show srB xs ns = l13R xs ns by rw [HSr.out, HFt.out, decide_eq_true hl, hl13]; rfl)
            have HRn := hide (fun W hb => HRn.out W hin hb)
            clear hin hl13 hl HSr
            go_wp2_with (first | (go_at_call 52; refine (HC.out _ HB1.out).mono ?_; rintro e w2 ⟨rfl, hb2⟩; have HB2 := hide (HB1.out.trans (hb2.mono HB1.out.size)); clear hb2) | (go_at_call 82; refine (HBo.out _ HB2.out).mono ?_; rintro e w3 ⟨v3, rfl, hO3, hb3⟩; obtain ⟨A3, c3, rfl, h31, h32, _⟩ := hO3.sl; have HB3 := hide (HB2.out.trans (hb3.mono HB2.out.size)); clear hb3 hO3) | (go_at_call 83; refine (HRn.out _ HB3.out).mono ?_; rintro e w4 ⟨rfl, hb4⟩; have HB4 := hide (HB3.out.trans (hb4.mono HB3.out.size)); clear hb4))
            go_ret
            exact ⟨ret_bool HQ.out.symm, HB4.out⟩
          · have hli : ((ns.length : Int) == 2 * (D.length : Int)) = false := by rw [beq_eq_false_iff_ne]; omega
            have HF := hide (show srB xs ns = false by rw [HSr.out, HFt.out, decide_eq_false hl]; rfl)
            clear hl HSr
            go_wp2_with (first | (go_at_call 52; refine (HC.out _ HB1.out).mono ?_; rintro e w2 ⟨rfl, hb2⟩; have HB2 := hide (HB1.out.trans (hb2.mono HB1.out.size)); clear hb2) | (go_at_call 82; refine (HBo.out _ HB2.out).mono ?_; rintro e w3 ⟨v3, rfl, hO3, hb3⟩; obtain ⟨A3, c3, rfl, h31, h32, _⟩ := hO3.sl; have HB3 := hide (HB2.out.trans (hb3.mono HB2.out.size)); clear hb3 hO3))
            go_ret
            exact ⟨ret_bool HF.out.symm, HB3.out⟩
end Go.Proofs.YtaaagoppecnmmaaDoor
