/- The program's SessionSerial. -/
import Derived.Test.YtmlbfhknapkhgaaFirst
import Derived.Test.YtmlbfhknapkhgaaHistI
import Derived.BigQuiet
import Derived.Laws.EntriesVeiled
namespace Go.Proofs.Ytmlbfhknapkhgaa
open Go.RowKit
set_option linter.unusedVariables false

def sesOf (h : List Txn) (n : Int) : Int := (h[n.toNat]?.map Txn.Session).getD 0
/-- A committed earlier transaction of the same session stands before. -/
def sesAlw (h : List Txn) (pre : List Int) (n : Int) : Bool := (doneL h).all fun b => !(decide (b < n) && sesOf h b == sesOf h n && !pre.contains b)
theorem sesOf_nat (h : List Txn) (n : Nat) (hn : n < h.length) : sesOf h (n : Int) = h[n].Session := by
  unfold sesOf
  rw [Int.toNat_natCast, List.getElem?_eq_getElem hn]; rfl
theorem take_all_snoc {α : Type} (p : α → Bool) (l : List α) (k : Nat) (hk : k < l.length) : (l.take (k + 1)).all p = ((l.take k).all p && p l[k]) := by
  rw [List.take_succ_eq_append_getElem hk, List.all_append]
  simp
theorem all_stop {α : Type} (p : α → Bool) (l : List α) (k : Nat) (h : (l.take k).all p = false) : l.all p = false := by
  rw [← List.take_append_drop k l, List.all_append, h]; rfl
set_option maxRecDepth 10000 in
set_option maxHeartbeats 1000000 in
theorem sess_any (h : List Txn) (A : Option Addr) (c : Nat) (W : World) (bh : Nat) (pre : List Int) (gone n : Nat) (h6 : h.length ≤ 6) (hB : Blk W bh 24 #[.slice A h.length c]) (hA : Row tTxn W (Old W) A h) (hn : n < h.length) (hbt : BitsOf gone pre) :
    Calls Try.prog 65 #[.int .u64 gone, .int .i64 n, .pointer (some ⟨bh, 0, none⟩)] W fun e w' => e = .returned (.bool (sesAlw h pre n)) ∧ Below W.heap.size W w' := by
  have HA := hide hA; have HB := hide hB; have HBt := hide hbt
  have HD := hide (implDone h A c W (by omega) hA)
  have c0 := hB.cell 0
  simp only [List.getElem?_toArray, List.getElem?_cons_zero, List.getElem?_cons_succ] at c0
  clear hA hB hbt
  go_enter Try.func65, Try.ntmps65
  go_wp2_with (go_at_call 66; refine HD.out.mono ?_; rintro e w1 ⟨v1, rfl, hO1, hb1⟩; obtain ⟨A1, c1, rfl, h11, h12, _⟩ := hO1.sl; have HO1 := hide hO1; have Hb1 := hide hb1; clear hO1 hb1)
  have hdl : (doneL h).length ≤ 6 := Nat.le_trans (doneI_len h _) h6
  have HP := hide (show sesAlw h pre n = (doneL h).all (fun b => !(decide (b < (n : Int)) && sesOf h b == sesOf h n && !pre.contains b)) from rfl)
  obtain ⟨p, hp⟩ : ∃ p : Int → Bool, p = fun b => !(decide (b < (n : Int)) && sesOf h b == sesOf h n && !pre.contains b) := ⟨_, rfl⟩
  rw [← hp] at HP
  have Hp := hide hp
  clear hp c0
  go_loopw [7, 11] (fun _ i wr => ∃ k : Nat, k ≤ (doneL h).length ∧ i = .int .i64 k ∧ Hid (((doneL h).take k).all p = true) ∧ Hid (Below w1.heap.size w1 wr)) (fun _ i _ => (doneL h).length - (intOf i).toNat)
  case atStart => exact ⟨0, Nat.zero_le _, rfl, rfl, Below.refl _ _⟩
  case round =>
    obtain ⟨k, hk, rfl, hN, hbw⟩ := hrel
    by_cases hlt : k < (doneL h).length
    · obtain ⟨b0, off0, rfl, hb0, e0⟩ := at_Int (HO1.out.sl.row.mono (S' := Old w1) (fun b h => h.2) (fun _ _ => rfl)) hbw.out hlt
      obtain ⟨hn0, hn1⟩ := doneI_mem h _ _ (List.getElem_mem hlt)
      obtain ⟨b, hb⟩ : ∃ b : Nat, (doneL h)[k] = (b : Int) := ⟨(doneL h)[k].toNat, by omega⟩
      have hbl : b < h.length := by omega
      have HTk := hide (show ((doneL h).take (k + 1)).all p = p (b : Int) by rw [take_all_snoc _ _ _ hlt, hN.out, hb, Bool.true_and])
      have HE := hide (show p (b : Int) = !(decide ((b : Int) < (n : Int)) && (h[b].Session == h[n].Session) && !pre.contains (b : Int)) by rw [Hp.out]; simp only [sesOf_nat h b hbl, sesOf_nat h n hn])
      have hbW := Hb1.out.trans (hbw.out.mono Hb1.out.size)
      have HbW := hide hbW
      have HbN := hide hbw.out
      have d0 := (HB.out.below hbW HB.out.lt).cell 0
      obtain ⟨bt, offt, At, ct, hAt, hbt, r0, _⟩ := at_Txn HA.out hbW hbl
      subst hAt
      obtain ⟨bt', offt', At', ct', hAt', _, r1, _⟩ := at_Txn HA.out hbW hn
      obtain ⟨rfl, rfl⟩ : bt = bt' ∧ offt = offt' := by injection hAt' with h1; injection h1 with h2 h3 h4; exact ⟨h2, h3⟩
      have hsh := shr_eq0 gone b HBt.out.1
      rw [HBt.out.2 b] at hsh
      simp only [List.getElem?_toArray, List.getElem?_cons_zero, List.getElem?_cons_succ] at d0
      rw [hb] at e0
      clear hb hn0 hn1 hN hbW hbw hAt'
      by_cases hlb : (b : Int) < (n : Int)
      · have hd : decide ((b : Int) < (n : Int)) = true := decide_eq_true hlb
        rw [hd] at HE
        cases hse : h[b].Session == h[n].Session with
        | false =>
          rw [hse] at HE
          have HT := hide (show ((doneL h).take (k + 1)).all p = true by rw [HTk.out, HE.out]; rfl)
          clear HTk HE 
          go_wp2_with fail
          go_quiet (fail)
          go_wp2_with fail
          go_roundw
          case rel => exact ⟨k + 1, by omega, by go_num, HT.out, HbN.out.trans ⟨rfl, rfl, rfl, Nat.le_refl _, fun _ _ => rfl⟩⟩
          case measure => simp [intOf]; omega
        | true =>
          rw [hse] at HE
          cases hpc : pre.contains (b : Int) with
          | true =>
            rw [hpc] at hsh HE
            have HT := hide (show ((doneL h).take (k + 1)).all p = true by rw [HTk.out, HE.out]; rfl)
            clear HTk HE 
            go_wp2_with fail
            go_quiet (fail)
            go_wp2_with fail
            go_roundw
            case rel => exact ⟨k + 1, by omega, by go_num, HT.out, HbN.out.trans ⟨rfl, rfl, rfl, Nat.le_refl _, fun _ _ => rfl⟩⟩
            case measure => simp [intOf]; omega
          | false =>
            rw [hpc] at hsh HE
            have HF := hide (show sesAlw h pre n = false by rw [HP.out]; exact all_stop p _ (k + 1) (by rw [HTk.out, HE.out]; rfl))
            clear HTk HE 
            go_wp2_with fail
            go_quiet (fail)
            go_wp2_with fail
            go_ret
            exact ⟨by rw [HF.out]; rfl, HbW.out.trans ⟨rfl, rfl, rfl, Nat.le_refl _, fun _ _ => rfl⟩⟩
      · have hd : decide ((b : Int) < (n : Int)) = false := decide_eq_false hlb
        rw [hd] at HE
        have hd2 : decide (b < n) = false := decide_eq_false (by omega)
        have HT := hide (show ((doneL h).take (k + 1)).all p = true by rw [HTk.out, HE.out]; rfl)
        clear HTk HE hlb hd
        go_wp2_with fail
        go_quiet (fail)
        go_wp2_with fail
        go_roundw
        case rel => exact ⟨k + 1, by omega, by go_num, HT.out, HbN.out.trans ⟨rfl, rfl, rfl, Nat.le_refl _, fun _ _ => rfl⟩⟩
        case measure => simp [intOf]; omega
    · obtain rfl : k = (doneL h).length := by omega
      have HT := hide (show sesAlw h pre n = true by rw [HP.out]; have := hN.out; rwa [List.take_length] at this)
      have HbW := hide (Hb1.out.trans (hbw.out.mono Hb1.out.size))
      clear hN hbw
      go_wp2_with fail
      go_ret
      exact ⟨by rw [HT.out]; rfl, HbW.out⟩
/-- The first right serial order that keeps sessions in order. -/
def sesF (xs : List Txn) : Option (List Int) := if histV xs then firstGood (goodR (sesAlw xs) xs) (doneL xs) else none
def sesB (xs : List Txn) : Bool := (sesF xs).isSome
def sesR (xs : List Txn) : List Int := (sesF xs).getD []
set_option maxRecDepth 10000 in
set_option maxHeartbeats 1000000 in
theorem implSessionSerial (xs : List Txn) (A : Option Addr) (c : Nat) (w : World) (hm : xs.length ≤ maxLen) (hA : Row tTxn w (Old w) A xs) :
    Calls Try.prog 20 #[.slice A xs.length c] w fun e w' => ∃ v, e = .returned (.tuple #[v, .bool (sesB xs)]) ∧ HoldI w' (New w w') (sesR xs) v ∧ Below w.heap.size w w' := by
  have hmf : ∀ (fn : Fn) (first cap : Array Value) (w : World), (Instr.makeFunc fn first cap).run Try.prog w = .ok (.func fn first cap) w := fun _ _ _ _ => rfl
  obtain ⟨W, hW⟩ : ∃ W, W = w.alloc (.cells #[.slice A xs.length c] 24) := ⟨_, rfl⟩
  have hbW : Below w.heap.size w W := by rw [hW]; exact (Below.refl _ w).alloc (Nat.le_refl _) _
  have hB : Blk W w.heap.size 24 #[.slice A xs.length c] := by rw [hW]; exact Blk.new w _ _
  have HH := hide (implHistoryValid xs A c W hm (hA.mono (fun b hb => Nat.lt_of_lt_of_le hb hbW.size) (fun b hb => hbW.block b hb)))
  have HA := hide hA; have HbW := hide hbW; have HB := hide hB
  have c0 := hB.cell 0
  simp only [List.getElem?_toArray, List.getElem?_cons_zero, List.getElem?_cons_succ] at c0
  clear hA hm hbW hB
  cases hv : histV xs with
  | false =>
    have HF := hide (show sesF xs = none by unfold sesF; rw [hv]; rfl)
    rw [hv] at HH
    clear hv
    go_enter Try.func20, Try.ntmps20
    go_upto_region 1 with (fail)
    rw [← hW]
    clear hW
    go_wp2_with (go_at_call 53; refine HH.out.mono ?_; rintro e w' ⟨rfl, hb'⟩)
    go_ret2
    refine ⟨_, by unfold sesB; rw [HF.out]; rfl, ⟨0, by unfold sesR; rw [HF.out]; exact Hold.nil 0⟩, HbW.out.trans (hb'.mono HbW.out.size)⟩
  | true =>
    rw [hv] at HH
    have HF := hide (show sesF xs = firstGood (goodR (sesAlw xs) xs) (doneL xs) by unfold sesF; rw [hv]; rfl)
    have h6 := (histV_parts hv).1
    have HF1 := hide (fun (W1 : World) (hb1 : Below w.heap.size w W1) (hB1 : Blk W1 w.heap.size 24 #[.slice A xs.length c]) =>
      firstSerial_any xs A c W1 (sesAlw xs) 65 #[.pointer (some ⟨w.heap.size, 0, none⟩)] hv (HA.out.mono (fun b hb => Nat.lt_of_lt_of_le hb hb1.size) (fun b hb => hb1.block b hb))
        (enters_of Try.func65 (by kernel_rfl) rfl)
        (fun W2 pre gone n hn hbt hb2 => sess_any xs A c W2 w.heap.size pre gone n h6 (hB1.below hb2 hB1.lt) (HA.out.mono (fun b hb => Nat.lt_of_lt_of_le hb (Nat.le_trans hb1.size hb2.size)) (fun b hb => (hb2.block b (Nat.lt_of_lt_of_le hb hb1.size)).trans (hb1.block b hb))) hn hbt))
    clear hv
    go_enter Try.func20, Try.ntmps20
    go_upto_region 1 with (fail)
    rw [← hW]
    clear hW
    go_wp2_with (first | (go_at_call 53; refine HH.out.mono ?_; rintro e w1 ⟨rfl, hb1⟩; have HB1 := hide hb1; have hB1 := HB.out.below hb1 HB.out.lt; have d0 := hB1.cell 0; simp only [List.getElem?_toArray, List.getElem?_cons_zero, List.getElem?_cons_succ] at d0; have HF2 := hide (HF1.out w1 (HbW.out.trans (hb1.mono HbW.out.size)) hB1); clear hb1 hB1) | (go_at_call 64; refine HF2.out.mono ?_; rintro e w2 ⟨v, rfl, hH, hb2⟩))
    go_ret2
    have hs := (HbW.out.trans (HB1.out.mono HbW.out.size)).size
    refine ⟨v, by unfold sesB; rw [HF.out]; rfl, by unfold sesR; rw [HF.out]; exact hH.mono (fun b hb => ⟨Nat.le_trans hs hb.1, hb.2⟩) (fun _ _ => rfl), (HbW.out.trans (HB1.out.mono HbW.out.size)).trans (hb2.mono hs)⟩
end Go.Proofs.Ytmlbfhknapkhgaa
