/- Serial orders that follow spans: what is asked of each number; the program's FindStrict. -/
import Derived.Test.YtaaagoppecnmmaaDoorStriM
import Derived.Test.YtaaagoppecnmmaaDoorFirst
import Derived.Test.YtaaagoppecnmmaaDoorHMath
import Derived.Test.YtaaagoppecnmmaaDoorSpans
import Derived.BigQuiet
import Derived.Laws.EntriesVeiled
namespace Go.Proofs.YtaaagoppecnmmaaDoor
open Go.RowKit
set_option linter.unusedVariables false
set_option linter.unusedSimpArgs false

set_option maxRecDepth 10000 in
set_option maxHeartbeats 1000000 in
theorem strict_any (sp : List Span) (A : Option Addr) (c : Nat) (W : World) (bs : Nat) (pre : List Int) (gone n : Nat) (hm : sp.length ≤ 6) (hB : Blk W bs 35 #[.slice A sp.length c]) (hA : Row tSpan W (Old W) A sp) (hn : n < sp.length) (hbt : BitsOf gone pre) (hin : ∀ x ∈ pre, x < (sp.length : Int)) (h1 : 1 < W.heap.size) (hT : TabDB W) :
    Calls Tryd.prog 65 #[.int .u64 gone, .int .i64 n, .pointer (some ⟨bs, 0, none⟩)] W fun e w' => e = .returned (.bool (strAlw sp pre n)) ∧ Below W.heap.size W w' := by
  have HA := hide hA; have HB := hide hB
  have HMb := hide (members_any gone W hbt.1 h1 hT)
  have HR := hide (str_memb sp pre gone n hbt)
  have HMi := hide (memb_in hbt hin)
  have hml := membF_len 6 gone
  have HSn := hide (spI_nat sp n hn)
  have c0 := hB.cell 0
  simp only [List.getElem?_toArray, List.getElem?_cons_zero, List.getElem?_cons_succ] at c0
  generalize membF 6 gone = L at HMb HR HMi hml
  clear hA hB hbt hin hT
  go_enter Tryd.func65, Tryd.ntmps65
  go_wp2_with (go_at_call 66; refine HMb.out.mono ?_; rintro e w1 ⟨v1, rfl, hO1, hb1⟩; obtain ⟨A1, c1, rfl, h11, h12, hr1⟩ := hO1.sl; have HR1 := hide (hr1.mono (S' := Old w1) (fun b h => h.2) (fun _ _ => rfl)); have HB1 := hide hb1; clear hO1 hb1 hr1)
  have hq : L.length ≤ 9223372036854775807 := by omega
  clear c0
  go_loopw [7, 11] (fun _ i wr => ∃ k : Nat, k ≤ L.length ∧ i = .int .i64 k ∧ Hid ((L.take k).all (strP sp n) = true) ∧ Hid (Below w1.heap.size w1 wr)) (fun _ i _ => L.length - (intOf i).toNat)
  case atStart => exact ⟨0, Nat.zero_le _, rfl, rfl, Below.refl _ _⟩
  case round =>
    obtain ⟨k, hk, rfl, hN, hb⟩ := hrel
    have HN := hide hN.out; have HBx := hide hb.out
    have HBw := hide (HB1.out.trans (hb.out.mono HB1.out.size))
    clear hN hb
    by_cases hlt : k < L.length
    · obtain ⟨b0, off0, rfl, hb0, e0⟩ := at_Int HR1.out HBx.out hlt
      obtain ⟨m, hme, hml2⟩ := HMi.out _ (List.getElem_mem hlt)
      have HTk := hide (show (L.take (k + 1)).all (strP sp n) = strP sp n (m : Int) by rw [take_all_snoc _ _ _ hlt, HN.out, hme, Bool.true_and])
      have HSt := hide (fun (h : (L.take (k + 1)).all (strP sp n) = false) => all_stop (strP sp n) L (k + 1) h)
      have HE := hide (show strP sp n (m : Int) = !decide (sp[n].To < sp[m].From) by unfold strP; rw [HSn.out, spI_nat sp m hml2])
      rw [hme] at e0
      obtain ⟨bs1, offs1, hAe, _, g0, g1⟩ := at_Span HA.out HBw.out hn
      subst hAe
      obtain ⟨bs', offs', hAe, _, f0, f1⟩ := at_Span HA.out HBw.out hml2
      obtain ⟨rfl, rfl⟩ : bs1 = bs' ∧ offs1 = offs' := by simpa using hAe
      have d0 := (HB.out.below HBw.out HB.out.lt).cell 0
      simp only [List.getElem?_toArray, List.getElem?_cons_zero, List.getElem?_cons_succ] at d0
      clear hAe hme
      cases hd : decide (sp[n].To < sp[m].From) with
      | true =>
        have hdg : decide (sp[m].From > sp[n].To) = true := hd
        have HF := hide (show strAlw sp pre n = false by rw [HR.out]; exact HSt.out (by rw [HTk.out, HE.out, hd]; rfl))
        clear hd
        go_wp2_with fail
        go_quiet (fail)
        go_wp2_with fail
        go_ret
        exact ⟨ret_bool HF.out.symm, below_drewN HBw.out _⟩
      | false =>
        have hdg : decide (sp[m].From > sp[n].To) = false := hd
        have HF := hide (show (L.take (k + 1)).all (strP sp n) = true by rw [HTk.out, HE.out, hd]; rfl)
        clear hd
        go_wp2_with fail
        go_quiet (fail)
        go_wp2_with fail
        go_roundw
        case rel => exact ⟨k + 1, by omega, by go_num, HF.out, below_drewN HBx.out _⟩
        case measure => simp [intOf]; omega
    · obtain rfl : k = L.length := by omega
      have HF := hide (show strAlw sp pre n = true by rw [HR.out]; have := HN.out; rwa [List.take_length] at this)
      go_wp2_with fail
      go_ret
      exact ⟨ret_bool HF.out.symm, HBw.out⟩
/-- The first right serial order that follows spans. -/
def strF (xs : List Txn) (sp : List Span) : Option (List Int) := if histV xs && spansV (xs.length : Int) sp then firstGood (goodR (strAlw sp) xs) (doneL xs) else none
def strBb (xs : List Txn) (sp : List Span) : Bool := (strF xs sp).isSome
def strR (xs : List Txn) (sp : List Span) : List Int := (strF xs sp).getD []
theorem spansV_len {n : Nat} {sp : List Span} (h : spansV (n : Int) sp = true) : sp.length = n ∧ n ≤ 6 := by
  unfold spansV at h
  simp only [Bool.and_eq_true, decide_eq_true_eq] at h
  have := inR_iff.1 h.1.1
  omega
set_option maxRecDepth 10000 in
set_option maxHeartbeats 2000000 in
theorem implFindStrict (xs : List Txn) (sp : List Span) (A B : Option Addr) (c d : Nat) (w : World) (hm : xs.length ≤ maxLen) (hms : sp.length ≤ maxLen) (h1 : 1 < w.heap.size) (hT : TabDB w) (hA : Row tTxn w (Old w) A xs) (hS : Row tSpan w (Old w) B sp) :
    Calls Tryd.prog 20 #[.slice A xs.length c, .slice B sp.length d] w fun e w' => ∃ v, e = .returned (.tuple #[v, .bool (strBb xs sp)]) ∧ HoldI w' (New w w') (strR xs sp) v ∧ Below w.heap.size w w' := by
  have hmf : ∀ (fn : Fn) (first cap : Array Value) (w : World), (Instr.makeFunc fn first cap).run Tryd.prog w = .ok (.func fn first cap) w := fun _ _ _ _ => rfl
  obtain ⟨W, hW⟩ : ∃ W, W = w.alloc (.cells #[.slice B sp.length d] 35) := ⟨_, rfl⟩
  have hbW : Below w.heap.size w W := by rw [hW]; exact (Below.refl _ w).alloc (Nat.le_refl _) _
  have hB : Blk W w.heap.size 35 #[.slice B sp.length d] := by rw [hW]; exact Blk.new w _ _
  have HH := hide (implHistoryValid xs A c W hm (hA.old hbW))
  have HSv := hide (fun (W1 : World) (hb : Below w.heap.size w W1) => implSpansValid (xs.length : Int) sp B d W1 hms (hS.old hb))
  have HA := hide hA; have HbW := hide hbW; have HB := hide hB; have HS := hide hS; have HT := hide hT
  have c0 := hB.cell 0
  simp only [List.getElem?_toArray, List.getElem?_cons_zero, List.getElem?_cons_succ] at c0
  clear hA hm hbW hB hS hms hT
  cases hv : histV xs with
  | false =>
    have HF := hide (show strF xs sp = none by unfold strF; rw [hv]; rfl)
    rw [hv] at HH
    clear hv
    go_enter Tryd.func20, Tryd.ntmps20
    go_upto_region 1 with (fail)
    rw [← hW]
    clear hW
    go_wp2_with (go_at_call 18; refine HH.out.mono ?_; rintro e w' ⟨rfl, hb'⟩)
    go_ret2
    refine ⟨_, by unfold strBb; rw [HF.out]; rfl, ⟨0, by unfold strR; rw [HF.out]; exact Hold.nil 0⟩, HbW.out.trans (hb'.mono HbW.out.size)⟩
  | true =>
    cases hs : spansV (xs.length : Int) sp with
    | false =>
      have HF := hide (show strF xs sp = none by unfold strF; rw [hv, hs]; rfl)
      rw [hv] at HH
      rw [hs] at HSv
      clear hv hs
      go_enter Tryd.func20, Tryd.ntmps20
      go_upto_region 1 with (fail)
      rw [← hW]
      clear hW
      go_wp2_with (first | (go_at_call 18; refine HH.out.mono ?_; rintro e w1 ⟨rfl, hb1⟩; have HB1 := hide (HbW.out.trans (hb1.mono HbW.out.size)); have d0 := (HB.out.below hb1 HB.out.lt).cell 0; simp only [List.getElem?_toArray, List.getElem?_cons_zero, List.getElem?_cons_succ] at d0; clear hb1) | (go_at_call 64; refine (HSv.out _ HB1.out).mono ?_; rintro e w2 ⟨rfl, hb2⟩; have HB2 := hide (HB1.out.trans (hb2.mono HB1.out.size)); clear hb2))
      go_ret2
      refine ⟨_, by unfold strBb; rw [HF.out]; rfl, ⟨0, by unfold strR; rw [HF.out]; exact Hold.nil 0⟩, HB2.out⟩
    | true =>
      obtain ⟨hsl, h6⟩ := spansV_len hs
      rw [hv] at HH
      rw [hs] at HSv
      have HF := hide (show strF xs sp = firstGood (goodR (strAlw sp) xs) (doneL xs) by unfold strF; rw [hv, hs]; rfl)
      have HF1 := hide (fun (W1 : World) (hb1 : Below w.heap.size w W1) (hB1 : Blk W1 w.heap.size 35 #[.slice B sp.length d]) =>
        firstSerial_any xs A c W1 (strAlw sp) 65 #[.pointer (some ⟨w.heap.size, 0, none⟩)] hv (HA.out.old hb1)
          (enters_of Tryd.func65 (by kernel_rfl) rfl)
          (fun W2 pre gone n hn hbt hin hb2 => strict_any sp B d W2 w.heap.size pre gone n (by omega) (hB1.below hb2 hB1.lt) (HS.out.old (hb1.trans (hb2.mono hb1.size))) (by omega) hbt (by rw [hsl]; exact hin) (Nat.lt_of_lt_of_le h1 (Nat.le_trans hb1.size hb2.size)) (HT.out.below h1 (hb1.trans (hb2.mono hb1.size)))))
      clear hv hs hsl
      go_enter Tryd.func20, Tryd.ntmps20
      go_upto_region 1 with (fail)
      rw [← hW]
      clear hW
      go_wp2_with (first | (go_at_call 18; refine HH.out.mono ?_; rintro e w1 ⟨rfl, hb1⟩; have HB1 := hide (HbW.out.trans (hb1.mono HbW.out.size)); have hX1 := HB.out.below hb1 HB.out.lt; have HX1 := hide hX1; have d0 := hX1.cell 0; simp only [List.getElem?_toArray, List.getElem?_cons_zero, List.getElem?_cons_succ] at d0; clear hb1 hX1) | (go_at_call 64; refine (HSv.out _ HB1.out).mono ?_; rintro e w2 ⟨rfl, hb2⟩; have HB2 := hide (HB1.out.trans (hb2.mono HB1.out.size)); have hX2 := HX1.out.below hb2 HX1.out.lt; have HF2 := hide (HF1.out w2 HB2.out hX2); clear hb2 hX2) | (go_at_call 57; refine HF2.out.mono ?_; rintro e w3 ⟨v, rfl, hH, hb3⟩))
      go_ret2
      have hs := HB2.out.size
      refine ⟨v, by unfold strBb; rw [HF.out]; rfl, by unfold strR; rw [HF.out]; exact hH.mono (fun b hb => ⟨Nat.le_trans hs hb.1, hb.2⟩) (fun _ _ => rfl), HB2.out.trans (hb3.mono hs)⟩
end Go.Proofs.YtaaagoppecnmmaaDoor
