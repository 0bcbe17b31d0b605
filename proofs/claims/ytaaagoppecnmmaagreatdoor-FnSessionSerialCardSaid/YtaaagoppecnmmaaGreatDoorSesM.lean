/- The program's SessionSerial. The reference's l14Forward. Plain laws: edges of sessions lead forward exactly where each transaction stands behind the earlier ones of its session. -/
import Derived.Test.YtaaagoppecnmmaaGreatDoorFirst
import Derived.Test.YtaaagoppecnmmaaGreatDoorHMath
import Derived.BigQuiet
import Derived.Laws.EntriesVeiled
import Derived.Test.YtaaagoppecnmmaaGreatDoorSEdge
namespace Go.Proofs.YtaaagoppecnmmaaGreatDoor
open Go.RowKit
set_option linter.unusedVariables false
set_option linter.unusedSimpArgs false

def sesOf (h : List Txn) (n : Int) : Int := (h[n.toNat]?.map Txn.Session).getD 0
/-- A committed earlier transaction of the same session stands before. -/
def sesAlw (h : List Txn) (pre : List Int) (n : Int) : Bool := (doneL h).all fun b => !(decide (b < n) && sesOf h b == sesOf h n && !pre.contains b)
theorem sesOf_nat (h : List Txn) (n : Nat) (hn : n < h.length) : sesOf h (n : Int) = h[n].Session := by
  unfold sesOf
  rw [Int.toNat_natCast, List.getElem?_eq_getElem hn]; rfl
set_option maxRecDepth 10000 in
set_option maxHeartbeats 1000000 in
theorem sess_any (h : List Txn) (A : Option Addr) (c : Nat) (W : World) (bh : Nat) (pre : List Int) (gone n : Nat) (h6 : h.length ≤ 6) (hB : Blk W bh 23 #[.slice A h.length c]) (hA : Row tTxn W (Old W) A h) (hn : n < h.length) (hbt : BitsOf gone pre) :
    Calls Tryz.prog 41 #[.int .u64 gone, .int .i64 n, .pointer (some ⟨bh, 0, none⟩)] W fun e w' => e = .returned (.bool (sesAlw h pre n)) ∧ Below W.heap.size W w' := by
  have HA := hide hA; have HB := hide hB; have HBt := hide hbt
  have HD := hide (implDone h A c W (by omega) hA)
  have c0 := hB.cell 0
  simp only [List.getElem?_toArray, List.getElem?_cons_zero, List.getElem?_cons_succ] at c0
  clear hA hB hbt
  go_enter Tryz.func41, Tryz.ntmps41
  go_wp2_with (go_at_call 42; refine HD.out.mono ?_; rintro e w1 ⟨v1, rfl, hO1, hb1⟩; obtain ⟨A1, c1, rfl, h11, h12, _⟩ := hO1.sl; have HO1 := hide hO1; have Hb1 := hide hb1; clear hO1 hb1)
  have hdl : (doneL h).length ≤ 6 := Nat.le_trans (doneI_len h _) h6
  have HP := hide (show sesAlw h pre n = (doneL h).all (fun b => !(decide (b < (n : Int)) && sesOf h b == sesOf h n && !pre.contains b)) from rfl)
  obtain ⟨p, hp⟩ : ∃ p : Int → Bool, p = fun b => !(decide (b < (n : Int)) && sesOf h b == sesOf h n && !pre.contains b) := ⟨_, rfl⟩
  rw [← hp] at HP
  have Hp := hide hp
  clear hp c0
  go_loopw [7, 11] (fun _ i wr => ∃ k : Nat, k ≤ (doneL h).length ∧ i = .int .i64 k ∧ Hid (((doneL h).take k).all p = true) ∧ Hid (Below w1.heap.size w1 wr)) (fun _ i _ => (doneL h).length - (intOf i).toNat)
  case atStart => exact ⟨0, Nat.zero_le _, rfl, rfl, Below.refl _ _⟩
  case round =>
    obtain ⟨k, hk, rfl, hN, hbw⟩ := hrel
    by_cases hlt : k < (doneL h).length
    · obtain ⟨b0, off0, rfl, hb0, e0⟩ := at_Int (HO1.out.sl.row.mono (S' := Old w1) (fun b h => h.2) (fun _ _ => rfl)) hbw.out hlt
      obtain ⟨hn0, hn1⟩ := doneI_mem h _ _ (List.getElem_mem hlt)
      obtain ⟨b, hb⟩ : ∃ b : Nat, (doneL h)[k] = (b : Int) := ⟨(doneL h)[k].toNat, by omega⟩
      have hbl : b < h.length := by omega
      have HTk := hide (show ((doneL h).take (k + 1)).all p = p (b : Int) by rw [take_all_snoc _ _ _ hlt, hN.out, hb, Bool.true_and])
      have HE := hide (show p (b : Int) = !(decide ((b : Int) < (n : Int)) && (h[b].Session == h[n].Session) && !pre.contains (b : Int)) by rw [Hp.out]; simp only [sesOf_nat h b hbl, sesOf_nat h n hn])
      have hbW := Hb1.out.trans (hbw.out.mono Hb1.out.size)
      have HbW := hide hbW
      have HbN := hide hbw.out
      have d0 := (HB.out.below hbW HB.out.lt).cell 0
      obtain ⟨bt, offt, At, ct, hAt, hbt, r0, _⟩ := at_Txn HA.out hbW hbl
      subst hAt
      obtain ⟨bt', offt', At', ct', hAt', _, r1, _⟩ := at_Txn HA.out hbW hn
      obtain ⟨rfl, rfl⟩ : bt = bt' ∧ offt = offt' := by injection hAt' with h1; injection h1 with h2 h3 h4; exact ⟨h2, h3⟩
      have hsh := shr_eq0 gone b HBt.out.1
      rw [HBt.out.2 b] at hsh
      simp only [List.getElem?_toArray, List.getElem?_cons_zero, List.getElem?_cons_succ] at d0
      rw [hb] at e0
      clear hb hn0 hn1 hN hbW hbw hAt'
      by_cases hlb : (b : Int) < (n : Int)
      · have hd : decide ((b : Int) < (n : Int)) = true := decide_eq_true hlb
        rw [hd] at HE
        cases hse : h[b].Session == h[n].Session with
        | false =>
          rw [hse] at HE
          have HT := hide (show ((doneL h).take (k + 1)).all p = true by rw [HTk.out, HE.out]; rfl)
          clear HTk HE 
          go_wp2_with fail
          go_quiet (fail)
          go_wp2_with fail
          go_roundw
          case rel => exact ⟨k + 1, by omega, by go_num, HT.out, HbN.out.trans ⟨rfl, rfl, rfl, Nat.le_refl _, fun _ _ => rfl⟩⟩
          case measure => simp [intOf]; omega
        | true =>
          rw [hse] at HE
          cases hpc : pre.contains (b : Int) with
          | true =>
            rw [hpc] at hsh HE
            have HT := hide (show ((doneL h).take (k + 1)).all p = true by rw [HTk.out, HE.out]; rfl)
            clear HTk HE 
            go_wp2_with fail
            go_quiet (fail)
            go_wp2_with fail
            go_roundw
            case rel => exact ⟨k + 1, by omega, by go_num, HT.out, HbN.out.trans ⟨rfl, rfl, rfl, Nat.le_refl _, fun _ _ => rfl⟩⟩
            case measure => simp [intOf]; omega
          | false =>
            rw [hpc] at hsh HE
            have HF := hide (show sesAlw h pre n = false by rw [HP.out]; exact all_stop p _ (k + 1) (by rw [HTk.out, HE.out]; rfl))
            clear HTk HE 
            go_wp2_with fail
            go_quiet (fail)
            go_wp2_with fail
            go_ret
            exact ⟨by rw [HF.out]; rfl, HbW.out.trans ⟨rfl, rfl, rfl, Nat.le_refl _, fun _ _ => rfl⟩⟩
      · have hd : decide ((b : Int) < (n : Int)) = false := decide_eq_false hlb
        rw [hd] at HE
        have hd2 : decide (b < n) = false := decide_eq_false (by omega)
        have HT := hide (show ((doneL h).take (k + 1)).all p = true by rw [HTk.out, HE.out]; rfl)
        clear HTk HE hlb hd
        go_wp2_with fail
        go_quiet (fail)
        go_wp2_with fail
        go_roundw
        case rel => exact ⟨k + 1, by omega, by go_num, HT.out, HbN.out.trans ⟨rfl, rfl, rfl, Nat.le_refl _, fun _ _ => rfl⟩⟩
        case measure => simp [intOf]; omega
    · obtain rfl : k = (doneL h).length := by omega
      have HT := hide (show sesAlw h pre n = true by rw [HP.out]; have := hN.out; rwa [List.take_length] at this)
      have HbW := hide (Hb1.out.trans (hbw.out.mono Hb1.out.size))
      clear hN hbw
      go_wp2_with fail
      go_ret
      exact ⟨by rw [HT.out]; rfl, HbW.out⟩
/-- The first right serial order that keeps sessions in order. -/
def sesF (xs : List Txn) : Option (List Int) := if histV xs then firstGood (goodR (sesAlw xs) xs) (doneL xs) else none
def sesB (xs : List Txn) : Bool := (sesF xs).isSome
def sesR (xs : List Txn) : List Int := (sesF xs).getD []
set_option maxRecDepth 10000 in
set_option maxHeartbeats 1000000 in
theorem implSessionSerial (xs : List Txn) (A : Option Addr) (c : Nat) (w : World) (hm : xs.length ≤ maxLen) (hA : Row tTxn w (Old w) A xs) :
    Calls Tryz.prog 14 #[.slice A xs.length c] w fun e w' => ∃ v, e = .returned (.tuple #[v, .bool (sesB xs)]) ∧ HoldI w' (New w w') (sesR xs) v ∧ Below w.heap.size w w' := by
  have hmf : ∀ (fn : Fn) (first cap : Array Value) (w : World), (Instr.makeFunc fn first cap).run Tryz.prog w = .ok (.func fn first cap) w := fun _ _ _ _ => rfl
  obtain ⟨W, hW⟩ : ∃ W, W = w.alloc (.cells #[.slice A xs.length c] 23) := ⟨_, rfl⟩
  have hbW : Below w.heap.size w W := by rw [hW]; exact (Below.refl _ w).alloc (Nat.le_refl _) _
  have hB : Blk W w.heap.size 23 #[.slice A xs.length c] := by rw [hW]; exact Blk.new w _ _
  have HH := hide (implHistoryValid xs A c W hm (hA.mono (fun b hb => Nat.lt_of_lt_of_le hb hbW.size) (fun b hb => hbW.block b hb)))
  have HA := hide hA; have HbW := hide hbW; have HB := hide hB
  have c0 := hB.cell 0
  simp only [List.getElem?_toArray, List.getElem?_cons_zero, List.getElem?_cons_succ] at c0
  clear hA hm hbW hB
  cases hv : histV xs with
  | false =>
    have HF := hide (show sesF xs = none by unfold sesF; rw [hv]; rfl)
    rw [hv] at HH
    clear hv
    go_enter Tryz.func14, Tryz.ntmps14
    go_upto_region 1 with (fail)
    rw [← hW]
    clear hW
    go_wp2_with (go_at_call 27; refine HH.out.mono ?_; rintro e w' ⟨rfl, hb'⟩)
    go_ret2
    refine ⟨_, by unfold sesB; rw [HF.out]; rfl, ⟨0, by unfold sesR; rw [HF.out]; exact Hold.nil 0⟩, HbW.out.trans (hb'.mono HbW.out.size)⟩
  | true =>
    rw [hv] at HH
    have HF := hide (show sesF xs = firstGood (goodR (sesAlw xs) xs) (doneL xs) by unfold sesF; rw [hv]; rfl)
    have h6 := (histV_parts hv).1
    have HF1 := hide (fun (W1 : World) (hb1 : Below w.heap.size w W1) (hB1 : Blk W1 w.heap.size 23 #[.slice A xs.length c]) =>
      firstSerial_any xs A c W1 (sesAlw xs) 41 #[.pointer (some ⟨w.heap.size, 0, none⟩)] hv (HA.out.mono (fun b hb => Nat.lt_of_lt_of_le hb hb1.size) (fun b hb => hb1.block b hb))
        (enters_of Tryz.func41 (by kernel_rfl) rfl)
        (fun W2 pre gone n hn hbt _ hb2 => sess_any xs A c W2 w.heap.size pre gone n h6 (hB1.below hb2 hB1.lt) (HA.out.mono (fun b hb => Nat.lt_of_lt_of_le hb (Nat.le_trans hb1.size hb2.size)) (fun b hb => (hb2.block b (Nat.lt_of_lt_of_le hb hb1.size)).trans (hb1.block b hb))) hn hbt))
    clear hv
    go_enter Tryz.func14, Tryz.ntmps14
    go_upto_region 1 with (fail)
    rw [← hW]
    clear hW
    go_wp2_with (first | (go_at_call 27; refine HH.out.mono ?_; rintro e w1 ⟨rfl, hb1⟩; have HB1 := hide hb1; have hB1 := HB.out.below hb1 HB.out.lt; have d0 := hB1.cell 0; simp only [List.getElem?_toArray, List.getElem?_cons_zero, List.getElem?_cons_succ] at d0; have HF2 := hide (HF1.out w1 (HbW.out.trans (hb1.mono HbW.out.size)) hB1); clear hb1 hB1) | (go_at_call 29; refine HF2.out.mono ?_; rintro e w2 ⟨v, rfl, hH, hb2⟩))
    go_ret2
    have hs := (HbW.out.trans (HB1.out.mono HbW.out.size)).size
    refine ⟨v, by unfold sesB; rw [HF.out]; rfl, by unfold sesR; rw [HF.out]; exact hH.mono (fun b hb => ⟨Nat.le_trans hs hb.1, hb.2⟩) (fun _ _ => rfl), (HbW.out.trans (HB1.out.mono HbW.out.size)).trans (hb2.mono hs)⟩
/-- At place l the edge does not lead back. -/
def fwdAt (o : List Int) (e : Edge) (l : Nat) : Bool := !(o.getD l 0 == e.To && !(o.take (l + 1)).contains e.From)
def edgeFwd (o : List Int) (e : Edge) : Bool := (List.range o.length).all (fwdAt o e)
def fwdB (o : List Int) (es : List Edge) : Bool := es.all (edgeFwd o)
theorem edgeFwd_all {o : List Int} {e : Edge} (h : ∀ m, m < o.length → fwdAt o e m = true) : edgeFwd o e = true := by
  unfold edgeFwd
  rw [List.all_eq_true]
  exact fun m hm => h m (List.mem_range.1 hm)
theorem edgeFwd_not {o : List Int} {e : Edge} {l : Nat} (hl : l < o.length) (h : fwdAt o e l = false) : edgeFwd o e = false := by
  unfold edgeFwd
  rw [List.all_eq_false]
  exact ⟨l, List.mem_range.2 hl, by simp [h]⟩
theorem contains_snoc (o : List Int) (l : Nat) (hl : l < o.length) (x : Int) : (o.take (l + 1)).contains x = ((o.take l).contains x || o[l] == x) := by
  rw [List.take_succ_eq_append_getElem hl, Bool.eq_iff_iff]
  simp only [List.contains_iff_mem, List.mem_append, List.mem_singleton, Bool.or_eq_true, beq_iff_eq]
  constructor <;> rintro (h | h)
  · exact .inl h
  · exact .inr h.symm
  · exact .inl h
  · exact .inr h.symm
/-- The place of what has been seen. -/
def seenAt (o : List Int) (x : Int) (l : Nat) (f : Int) : Prop := ((o.take l).contains x = true → 0 ≤ f) ∧ ((o.take l).contains x = false → f = -1)
set_option maxRecDepth 10000 in
set_option maxHeartbeats 2000000 in
theorem specForward (o : List Int) (es : List Edge) (A B : Option Addr) (c d : Nat) (w : World) (hm : o.length ≤ maxLen) (hme : es.length ≤ maxLen) (hA : Row tInt w (Old w) A o) (hB : Row tEdge w (Old w) B es) :
    Calls Tryz.prog 44 #[.slice A o.length c, .slice B es.length d] w fun e w' => e = .returned (.bool (fwdB o es)) ∧ Below w.heap.size w w' := by
  have hq : o.length ≤ 9223372036854775807 := by simpa [maxLen] using hm
  have hqe : es.length ≤ 9223372036854775807 := by simpa [maxLen] using hme
  have HA := hide hA; have HB := hide hB
  clear hA hB hm hme
  go_enter Tryz.func44, Tryz.ntmps44
  go_wp2_with fail
  go_loopw [5, 6, 7] (fun i _ _ wr => ∃ k : Nat, k ≤ es.length ∧ i = .int .i64 k ∧ Hid ((es.take k).all (edgeFwd o) = true) ∧ Hid (Below w.heap.size w wr)) (fun i _ _ _ => es.length - (intOf i).toNat)
  case atStart => exact ⟨0, Nat.zero_le _, rfl, rfl, Below.refl _ _⟩
  case round =>
    obtain ⟨k, hk, rfl, hN, hb⟩ := hrel
    by_cases hlt : k < es.length
    · have HN := hide hN.out; have Hb := hide hb.out
      have HTk := hide (show (es.take (k + 1)).all (edgeFwd o) = edgeFwd o es[k] by rw [List.take_succ_eq_append_getElem hlt, List.all_append, HN.out]; simp)
      obtain ⟨b, off, hB', hbS, _⟩ := at_Edge HB.out Hb.out hlt
      subst hB'
      clear hN hb
      go_wp2_with fail
      go_loopw [6, 7] (fun f j wr2 => ∃ (l : Nat) (fi : Int), l ≤ o.length ∧ j = .int .i64 l ∧ f = .int .i64 fi ∧ Hid (seenAt o es[k].From l fi) ∧ Hid (∀ m, m < l → fwdAt o es[k] m = true) ∧ Hid (Below w.heap.size w wr2)) (fun _ j _ => o.length - (intOf j).toNat)
      case atStart => exact ⟨0, -1, Nat.zero_le _, rfl, rfl, ⟨fun h => by simp at h, fun _ => rfl⟩, fun m h1 => by omega, Hb.out⟩
      case round =>
        obtain ⟨l, fi, hl, rfl, rfl, hF, hM, hb⟩ := hrel
        by_cases hlt2 : l < o.length
        · obtain ⟨b', off', hBe, _, e0, e1, _⟩ := at_Edge HB.out hb.out hlt
          obtain ⟨rfl, rfl⟩ : b = b' ∧ off = off' := by simpa using hBe
          obtain ⟨bo, offo, rfl, hbo, c0⟩ := at_Int HA.out hb.out hlt2
          have HCs := hide (contains_snoc o l hlt2 es[k].From)
          have HAt := hide (show fwdAt o es[k] l = !(o[l] == es[k].To && !((o.take l).contains es[k].From || o[l] == es[k].From)) by unfold fwdAt; rw [HCs.out, List.getD_eq_getElem?_getD, List.getElem?_eq_getElem hlt2]; rfl)
          have HMn := hide (show fwdAt o es[k] l = true → ∀ m, m < l + 1 → fwdAt o es[k] m = true from fun hp m h1 => by
            by_cases hml : m < l
            · exact hM.out m hml
            · obtain rfl : m = l := by omega
              exact hp)
          have HF := hide hF.out
          have Hb2 := hide hb.out
          have hlq : (l : Int) < 9223372036854775807 := by omega
          clear hBe hF hM hb
          cases hfr : o[l] == es[k].From with
          | true =>
            rw [hfr] at HAt HCs
            have HG := hide (HMn.out (by rw [HAt.out, Bool.or_true]; simp))
            have hd2 : decide ((l : Int) < 0) = false := decide_eq_false (by omega)
            cases hto : o[l] == es[k].To with
            | true =>
              go_wp2_with fail
              go_quiet (fail)
              go_wp2_with fail
              go_quiet (fail)
              go_wp2_with fail
              go_roundw
              case rel => exact ⟨l + 1, l, by omega, by go_num, rfl, ⟨fun _ => by omega, fun h => by rw [HCs.out, Bool.or_true] at h; cases h⟩, HG.out, Hb2.out.trans ⟨rfl, rfl, rfl, Nat.le_refl _, fun _ _ => rfl⟩⟩
              case measure => simp [intOf]; omega
            | false =>
              go_wp2_with fail
              go_quiet (fail)
              go_wp2_with fail
              go_quiet (fail)
              go_wp2_with fail
              go_roundw
              case rel => exact ⟨l + 1, l, by omega, by go_num, rfl, ⟨fun _ => by omega, fun h => by rw [HCs.out, Bool.or_true] at h; cases h⟩, HG.out, Hb2.out.trans ⟨rfl, rfl, rfl, Nat.le_refl _, fun _ _ => rfl⟩⟩
              case measure => simp [intOf]; omega
          | false =>
            rw [hfr] at HAt HCs
            cases hto : o[l] == es[k].To with
            | false =>
              rw [hto] at HAt
              have HG := hide (HMn.out HAt.out)
              go_wp2_with fail
              go_quiet (fail)
              go_wp2_with fail
              go_quiet (fail)
              go_wp2_with fail
              go_roundw
              case rel => exact ⟨l + 1, fi, by omega, by go_num, rfl, ⟨fun h => HF.out.1 (by rw [HCs.out, Bool.or_false] at h; exact h), fun h => HF.out.2 (by rw [HCs.out, Bool.or_false] at h; exact h)⟩, HG.out, Hb2.out.trans ⟨rfl, rfl, rfl, Nat.le_refl _, fun _ _ => rfl⟩⟩
              case measure => simp [intOf]; omega
            | true =>
              rw [hto] at HAt
              cases hcn : (o.take l).contains es[k].From with
              | true =>
                rw [hcn] at HAt
                have HG := hide (HMn.out HAt.out)
                have hd2 : decide (fi < 0) = false := decide_eq_false (by have := HF.out.1 hcn; omega)
                go_wp2_with fail
                go_quiet (fail)
                go_wp2_with fail
                go_quiet (fail)
                go_wp2_with fail
                go_roundw
                case rel => exact ⟨l + 1, fi, by omega, by go_num, rfl, ⟨fun h => HF.out.1 (by rw [HCs.out, Bool.or_false] at h; exact h), fun h => HF.out.2 (by rw [HCs.out, Bool.or_false] at h; exact h)⟩, HG.out, Hb2.out.trans ⟨rfl, rfl, rfl, Nat.le_refl _, fun _ _ => rfl⟩⟩
                case measure => simp [intOf]; omega
              | false =>
                rw [hcn] at HAt
                have hfi := HF.out.2 hcn
                subst hfi
                have HX := hide (show fwdB o es = false by
                  unfold fwdB
                  rw [List.all_eq_false]
                  exact ⟨es[k], List.getElem_mem hlt, by simp [edgeFwd_not hlt2 HAt.out]⟩)
                go_wp2_with fail
                go_quiet (fail)
                go_wp2_with fail
                go_quiet (fail)
                go_wp2_with fail
                go_ret
                exact ⟨ret_bool HX.out.symm, Hb2.out.trans ⟨rfl, rfl, rfl, Nat.le_refl _, fun _ _ => rfl⟩⟩
        · obtain rfl : l = o.length := by omega
          have HG := hide (HTk.out.trans (edgeFwd_all hM.out))
          have Hb2 := hide hb.out
          clear hF hM hb
          go_wp2_with fail
          go_roundw
          case rel => exact ⟨k + 1, by omega, by go_num, HG.out, Hb2.out⟩
          case measure => simp [intOf]; omega
    · obtain rfl : k = es.length := by omega
      have HV := hide (show fwdB o es = true by unfold fwdB; have := hN.out; rwa [List.take_length] at this)
      have Hb := hide hb.out
      clear hN hb
      go_wp2_with fail
      go_ret
      exact ⟨ret_bool HV.out.symm, Hb.out⟩
theorem mem_doneL {h : List Txn} {x : Nat} : (x : Int) ∈ doneL h ↔ x < h.length ∧ doneAt h x = true := by
  constructor
  · intro hx
    have h1 := doneI_mem h _ _ hx
    have h2 := doneI_done h _ _ hx
    exact ⟨by omega, by simpa [doneAt] using h2⟩
  · rintro ⟨h1, h2⟩
    exact mem_doneI h _ x h1 h2
theorem ses_same (h : List Txn) (x : Nat) : sesOf h (x : Int) = sesAt h x := by
  unfold sesOf sesAt
  rw [Int.toNat_natCast]
theorem nextS_spec {h : List Txn} {k j : Nat} (hn : nextS h k = some j) : k < j ∧ j < h.length ∧ pairB h k j = true ∧ ∀ m, k < m → pairB h k m = true → m < h.length → j ≤ m := by
  unfold nextS at hn
  have h1 := List.find?_some hn
  have h2 := List.mem_of_find?_eq_some hn
  rw [Bool.and_eq_true, decide_eq_true_eq] at h1
  refine ⟨h1.1, List.mem_range.1 h2, h1.2, fun m hm hp hl => ?_⟩
  rw [List.find?_eq_some_iff_append] at hn
  obtain ⟨_, pa, pb, he, hno⟩ := hn
  by_cases hjm : j ≤ m
  · exact hjm
  · exfalso
    have hma : m ∈ pa := by
      have hpw : (List.range h.length).Pairwise (· < ·) := List.pairwise_lt_range
      have hmr : m ∈ List.range h.length := List.mem_range.2 hl
      rw [he] at hpw hmr
      rw [List.mem_append] at hmr
      rcases hmr with hmr | hmr
      · exact hmr
      · rw [List.pairwise_append] at hpw
        rcases List.mem_cons.1 hmr with rfl | hmr
        · omega
        · have := List.rel_of_pairwise_cons hpw.2.1 hmr
          omega
    have := hno m hma
    simp [hm, hp] at this
theorem nextS_ex {h : List Txn} {k m : Nat} (hm : k < m) (hl : m < h.length) (hp : pairB h k m = true) : ∃ j, nextS h k = some j := by
  cases hn : nextS h k with
  | some j => exact ⟨j, rfl⟩
  | none =>
    unfold nextS at hn
    rw [List.find?_eq_none] at hn
    have := hn m (List.mem_range.2 hl)
    simp [hm, hp] at this
theorem mem_sEdges {h : List Txn} {e : Edge} : e ∈ sEdges h h.length ↔ ∃ k j : Nat, k < h.length ∧ doneAt h k = true ∧ nextS h k = some j ∧ e = ⟨(k : Int), (j : Int), 4⟩ := by
  unfold sEdges
  rw [List.mem_flatMap]
  constructor
  · rintro ⟨k, hk, he⟩
    unfold edgeAt at he
    split at he
    · rename_i hd
      cases hn : nextS h k with
      | none => rw [hn] at he; cases he
      | some j => rw [hn] at he; exact ⟨k, j, List.mem_range.1 hk, hd, hn, by simpa using he⟩
    · cases he
  · rintro ⟨k, j, hk, hd, hn, rfl⟩
    refine ⟨k, List.mem_range.2 hk, ?_⟩
    unfold edgeAt
    rw [if_pos hd, hn]
    simp
/-- All edges of sessions lead forward. -/
def FwdP (h : List Txn) (o : List Int) : Prop := ∀ k j : Nat, k < h.length → doneAt h k = true → nextS h k = some j → ∀ l (hl : l < o.length), o[l] = (j : Int) → (k : Int) ∈ o.take (l + 1)
def StepP (h : List Txn) (o : List Int) : Prop := ∀ l (hl : l < o.length), ∀ b ∈ doneL h, b < o[l] → sesOf h b = sesOf h o[l] → b ∈ o.take l
theorem fwd_iff (h : List Txn) (o : List Int) : fwdB o (sEdges h h.length) = true ↔ FwdP h o := by
  unfold fwdB
  rw [List.all_eq_true]
  constructor
  · intro ha k j hk hd hn l hl hlj
    have h1 := ha ⟨(k : Int), (j : Int), 4⟩ (mem_sEdges.2 ⟨k, j, hk, hd, hn, rfl⟩)
    unfold edgeFwd at h1
    rw [List.all_eq_true] at h1
    have h2 := h1 l (List.mem_range.2 hl)
    unfold fwdAt at h2
    rw [List.getD_eq_getElem?_getD, List.getElem?_eq_getElem hl] at h2
    simpa [hlj] using h2
  · intro hF e he
    obtain ⟨k, j, hk, hd, hn, rfl⟩ := mem_sEdges.1 he
    refine edgeFwd_all fun l hl => ?_
    unfold fwdAt
    rw [List.getD_eq_getElem?_getD, List.getElem?_eq_getElem hl]
    by_cases hlj : o[l] = (j : Int)
    · have := hF k j hk hd hn l hl hlj
      simp [this]
    · simp [hlj]
theorem step_iff (h : List Txn) (o : List Int) : stepsOK (sesAlw h) o = true ↔ StepP h o := by
  unfold stepsOK sesAlw
  rw [List.all_eq_true]
  constructor
  · intro ha l hl b hb hlt hs
    have h1 := ha l (List.mem_range.2 hl)
    rw [List.all_eq_true] at h1
    have h2 := h1 b hb
    rw [List.getD_eq_getElem?_getD, List.getElem?_eq_getElem hl] at h2
    simpa [hlt, hs] using h2
  · intro hS l hl
    rw [List.mem_range] at hl
    rw [List.all_eq_true]
    intro b hb
    rw [List.getD_eq_getElem?_getD, List.getElem?_eq_getElem hl]
    by_cases hlt : b < o[l]
    · by_cases hs : sesOf h b = sesOf h o[l]
      · have := hS l hl b hb hlt hs
        simp [this]
      · simp [hs]
    · simp [hlt]
theorem take_mono_mem {o : List Int} {i j : Nat} (hij : i ≤ j) {x : Int} (hx : x ∈ o.take i) : x ∈ o.take j := by
  obtain ⟨k, hk, rfl⟩ := List.mem_take_iff_getElem.1 hx
  exact List.mem_take_iff_getElem.2 ⟨k, by omega, rfl⟩
theorem fwd_step (h : List Txn) (o : List Int) (ho : o.Perm (doneL h)) : FwdP h o ↔ StepP h o := by
  constructor
  · intro hF l hl
    have hnD : o[l] ∈ doneL h := ho.mem_iff.1 (List.getElem_mem hl)
    obtain ⟨hn0, hn1⟩ := doneI_mem h _ _ hnD
    obtain ⟨n, hn⟩ : ∃ n : Nat, o[l] = (n : Int) := ⟨o[l].toNat, by omega⟩
    rw [hn] at hnD hn1 ⊢
    obtain ⟨hnl, hnd⟩ := mem_doneL.1 hnD
    have key : ∀ (g b : Nat), n - b = g → b < n → b < h.length → doneAt h b = true → sesAt h b = sesAt h n → (b : Int) ∈ o.take l := by
      intro g
      induction g using Nat.strongRecOn with
      | ind g ih =>
        intro b hg hbn hbl hbd hbs
        have hp : pairB h b n = true := by unfold pairB; rw [hnd, hbs]; simp
        obtain ⟨m, hm⟩ := nextS_ex hbn hnl hp
        obtain ⟨h1, h2, h3, h4⟩ := nextS_spec hm
        have h5 := h4 n hbn hp hnl
        unfold pairB at h3
        rw [Bool.and_eq_true, beq_iff_eq] at h3
        by_cases hmn : m = n
        · subst hmn
          have h6 := hF b m hbl hbd hm l hl hn
          rw [List.take_succ_eq_append_getElem hl, List.mem_append, List.mem_singleton, hn] at h6
          rcases h6 with h6 | h6
          · exact h6
          · omega
        · have h6 := ih (n - m) (by omega) m rfl (by omega) h2 h3.1 (by rw [h3.2, hbs])
          obtain ⟨i, hi, hie⟩ := List.mem_take_iff_getElem.1 h6
          have h7 := hF b m hbl hbd hm i (by omega) hie
          exact take_mono_mem (by omega) h7
    intro b hb hlt hs
    obtain ⟨hb0, hb1⟩ := doneI_mem h _ _ hb
    obtain ⟨b', rfl⟩ : ∃ b' : Nat, b = (b' : Int) := ⟨b.toNat, by omega⟩
    obtain ⟨h1, h2⟩ := mem_doneL.1 hb
    rw [ses_same, ses_same] at hs
    exact key _ b' rfl (by omega) h1 h2 hs
  · intro hS k j hk hd hn l hl hlj
    obtain ⟨h1, h2, h3, _⟩ := nextS_spec hn
    unfold pairB at h3
    rw [Bool.and_eq_true, beq_iff_eq] at h3
    exact take_mono_mem (Nat.le_succ l) (hS l hl k (mem_doneL.2 ⟨hk, hd⟩) (by rw [hlj]; omega) (by rw [hlj, ses_same, ses_same, h3.2]))
theorem sesGood (h : List Txn) (o : List Int) (ho : o.Perm (doneL h)) : goodR (sesAlw h) h o = (runsOK h o && fwdB o (sEdges h h.length)) := by
  unfold goodR
  congr 1
  rw [Bool.eq_iff_iff, step_iff, fwd_iff, fwd_step h o ho]
end Go.Proofs.YtaaagoppecnmmaaGreatDoor
