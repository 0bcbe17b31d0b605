/- The reference's OpValid, TxnValid, l2Writes, HistoryValid. slices.IndexFunc and slices.ContainsFunc answer by the first element that the predicate takes, for lists, drafts, operations and edges. slices.IndexFunc and slices.ContainsFunc answer by the first element that the predicate takes, for transactions. -/
import Derived.Test.YtjiobgfaohldhaaGreatQToA
import Derived.Test.YtjiobgfaohldhaaGreatQRanges
import Derived.Test.YtjiobgfaohldhaaGreatProg
import Derived.IntWalk
namespace Go.Proofs.YtjiobgfaohldhaaGreat
open Go.RowKit
set_option linter.unusedVariables false
set_option linter.unusedSimpArgs false

def txnOk (t : Txn) : Bool := t.Ops.all opOk && (inR t.Session 0 3 && decide (t.Ops.length ≤ 6))
theorem opOk_eq (o : Op) : opOk o = (inR o.Kind 1 2 && inR o.Key 0 2 && inR o.Value 0 99 && (o.Kind == 1 || decide (0 < o.Value))) := by
  rw [Bool.eq_iff_iff]
  simp only [opOk, inR, Bool.and_eq_true, Bool.or_eq_true, beq_iff_eq, decide_eq_true_eq, Bool.not_eq_true', Bool.and_eq_false_iff, beq_eq_false_iff_ne]
  omega
set_option maxRecDepth 10000 in
set_option maxHeartbeats 1000000 in
theorem specOpValid (o : Op) (w : World) : Calls Tryz.prog 129 #[.agg #[.int .i64 o.Kind, .int .i64 o.Key, .int .i64 o.Value]] w fun e w' => e = .returned (.bool (opOk o)) ∧ Below w.heap.size w w' := by
  have HO := hide (opOk_eq o)
  have HB := hide ((Below.refl _ w).alloc (Nat.le_refl _) (.cells #[.int .i64 o.Kind, .int .i64 o.Key, .int .i64 o.Value] 82))
  cases q1 : inR o.Kind 1 2 with
  | false =>
    rw [q1] at HO
    go_enter Tryz.func129, Tryz.ntmps129
    go_wp2_with (go_at_call 96; refine (l1In _ _ _ _).mono ?_; rintro e w' ⟨rfl, rfl⟩)
    go_ret
    exact ⟨by rw [HO.out]; rfl, HB.out⟩
  | true =>
    cases q2 : inR o.Key 0 2 with
    | false =>
      rw [q1, q2] at HO
      go_enter Tryz.func129, Tryz.ntmps129
      go_wp2_with (go_at_call 96; refine (l1In _ _ _ _).mono ?_; rintro e w' ⟨rfl, rfl⟩)
      go_ret
      exact ⟨by rw [HO.out]; rfl, HB.out⟩
    | true =>
      cases q3 : inR o.Value 0 99 with
      | false =>
        rw [q1, q2, q3] at HO
        go_enter Tryz.func129, Tryz.ntmps129
        go_wp2_with (go_at_call 96; refine (l1In _ _ _ _).mono ?_; rintro e w' ⟨rfl, rfl⟩)
        go_ret
        exact ⟨by rw [HO.out]; rfl, HB.out⟩
      | true =>
        rw [q1, q2, q3] at HO
        cases q4 : (o.Kind == 1) with
        | true =>
          rw [q4] at HO
          go_enter Tryz.func129, Tryz.ntmps129
          go_wp2_with (go_at_call 96; refine (l1In _ _ _ _).mono ?_; rintro e w' ⟨rfl, rfl⟩)
          go_ret
          exact ⟨by rw [HO.out]; rfl, HB.out⟩
        | false =>
          rw [q4] at HO
          go_enter Tryz.func129, Tryz.ntmps129
          go_wp2_with (go_at_call 96; refine (l1In _ _ _ _).mono ?_; rintro e w' ⟨rfl, rfl⟩)
          go_ret
          exact ⟨by rw [HO.out]; simp, HB.out⟩

set_option maxRecDepth 10000 in
set_option maxHeartbeats 1000000 in
theorem specTxnValid (t : Txn) (A : Option Addr) (c : Nat) (w : World) (hm : t.Ops.length ≤ maxLen) (hA : Row tOp w (Old w) A t.Ops) :
    Calls Tryz.prog 94 #[.agg #[.int .i64 t.Session, .slice A t.Ops.length c, .bool t.Done]] w fun e w' => e = .returned (.bool (txnOk t)) ∧ Below w.heap.size w w' := by
  have hq : t.Ops.length ≤ 9223372036854775807 := by simpa [maxLen] using hm
  have HA := hide (hA.old ((Below.refl _ w).alloc (Nat.le_refl _) (.cells #[.int .i64 t.Session, .slice A t.Ops.length c, .bool t.Done] 57)))
  have HBk := hide (Blk.new w 57 #[.int .i64 t.Session, .slice A t.Ops.length c, .bool t.Done])
  have HB := hide ((Below.refl _ w).alloc (Nat.le_refl _) (.cells #[.int .i64 t.Session, .slice A t.Ops.length c, .bool t.Done] 57))
  have HT := hide (show txnOk t = (t.Ops.all opOk && (inR t.Session 0 3 && decide (t.Ops.length ≤ 6))) from rfl)
  obtain ⟨w1, hw1⟩ : ∃ w1, w1 = w.alloc (.cells #[.int .i64 t.Session, .slice A t.Ops.length c, .bool t.Done] 57) := ⟨_, rfl⟩
  clear hA hm
  go_enter Tryz.func94, Tryz.ntmps94
  go_wp2
  rw [← hw1] at HA HBk HB ⊢
  clear hw1
  go_loopw [3] (fun i wr => ∃ k : Nat, k ≤ t.Ops.length ∧ i = .int .i64 k ∧ Hid (Upto opOk t.Ops k) ∧ Below w1.heap.size w1 wr) (fun i _ => t.Ops.length - (intOf i).toNat)
  case atStart => exact ⟨0, Nat.zero_le _, rfl, Upto.zero, Below.refl _ _⟩
  case round =>
    obtain ⟨k, hk, rfl, hI, hb⟩ := hrel
    have HK := HBk.out.below hb HBk.out.lt
    have c0 := HK.cell 0
    have c1 := HK.cell 1
    simp only [List.getElem?_toArray, List.getElem?_cons_zero, List.getElem?_cons_succ] at c0 c1
    clear HK
    by_cases hlt : k < t.Ops.length
    · obtain ⟨b, off, rfl, hbS, d0, d1, d2⟩ := at_Op HA.out hb hlt
      cases hs : opOk t.Ops[k] with
      | false =>
        have HS := hide hs; clear hs
        go_wp2_with (go_at_call 129; refine (specOpValid _ _).mono ?_; rintro e w' ⟨rfl, hb'⟩; rw [HS.out])
        go_ret
        exact ⟨ret_bool (by rw [HT.out, all_false hlt HS.out]; rfl), HB.out.trans ((hb.trans (hb'.mono hb.size)).mono HB.out.size)⟩
      | true =>
        have HS := hide hs; clear hs
        go_wp2_with (go_at_call 129; refine (specOpValid _ _).mono ?_; rintro e w' ⟨rfl, hb'⟩; rw [HS.out])
        go_roundw
        case rel => exact ⟨k + 1, by omega, by go_num, hI.out.succ hlt HS.out, hb.trans (hb'.mono hb.size)⟩
        case measure => simp [intOf]; omega
    · obtain rfl : k = t.Ops.length := by omega
      have HT2 := hide (show txnOk t = (inR t.Session 0 3 && decide (t.Ops.length ≤ 6)) by rw [HT.out, hI.out.all]; rfl)
      clear hI HT HA
      cases hs : inR t.Session 0 3 with
      | false =>
        rw [hs] at HT2
        go_wp2_with (go_at_call 96; refine (l1In _ _ _ _).mono ?_; rintro e w' ⟨rfl, rfl⟩)
        go_ret
        exact ⟨ret_bool (by rw [HT2.out]; rfl), HB.out.trans (hb.mono HB.out.size)⟩
      | true =>
        rw [hs] at HT2
        go_wp2_with (go_at_call 96; refine (l1In _ _ _ _).mono ?_; rintro e w' ⟨rfl, rfl⟩)
        go_ret
        exact ⟨ret_bool (by rw [HT2.out]; simp; try omega), HB.out.trans (hb.mono HB.out.size)⟩

def isW (key value : Int) (o : Op) : Bool := o.Kind == 2 && o.Key == key && o.Value == value
def opsN (h : List Txn) : Nat := tot (fun x : Txn => x.Ops.length) h
def writesN (h : List Txn) (key value : Int) : Nat := tot (fun x : Txn => x.Ops.countP (isW key value)) h
theorem countP_take {α : Type} (p : α → Bool) (xs : List α) (k : Nat) (h : k < xs.length) : (xs.take (k + 1)).countP p = (xs.take k).countP p + (if p xs[k] then 1 else 0) := by
  rw [List.take_succ_eq_append_getElem h, List.countP_append]
  simp [List.countP_cons]
theorem tot_le_tot {α : Type} (f g : α → Nat) : ∀ (xs : List α), (∀ x ∈ xs, f x ≤ g x) → tot f xs ≤ tot g xs
  | [], _ => Nat.le_refl _
  | x :: xs, h => by
    have h1 := tot_le_tot f g xs fun y hy => h y (List.mem_cons_of_mem _ hy)
    have h2 := h x List.mem_cons_self
    simp only [tot, List.map_cons, List.sum_cons] at h1 ⊢
    omega
set_option maxRecDepth 10000 in
set_option maxHeartbeats 1000000 in
theorem specWrites (xs : List Txn) (key value : Int) (A : Option Addr) (c : Nat) (w : World) (hm : xs.length ≤ maxLen) (hA : Row tTxn w (Old w) A xs) (ht : opsN xs ≤ 1048576) :
    Calls Tryz.prog 95 #[.slice A xs.length c, .int .i64 key, .int .i64 value] w fun e w' => e = .returned (.int .i64 (writesN xs key value : Nat)) ∧ Below w.heap.size w w' := by
  unfold maxLen at hm
  have HA := hide hA
  have HT := hide ht
  clear hA ht
  go_enter Tryz.func95, Tryz.ntmps95
  go_wp2
  go_loopw [7, 8] (fun m i wr => ∃ k : Nat, k ≤ xs.length ∧ i = .int .i64 k ∧ m = .int .i64 (writesN (xs.take k) key value : Nat) ∧ Below w.heap.size w wr) (fun _ i _ => xs.length - (intOf i).toNat)
  case atStart => exact ⟨0, Nat.zero_le _, rfl, by simp [writesN, tot], Below.refl _ _⟩
  case round =>
    obtain ⟨k, hk, rfl, rfl, hb⟩ := hrel
    by_cases hlt : k < xs.length
    · obtain ⟨b, off, A2, c2, rfl, hbS, c0, c1, c3, hi1, hi2, hi3⟩ := at_Txn HA.out hb hlt
      obtain ⟨m0, hm0⟩ : ∃ m, m = writesN (xs.take k) key value := ⟨_, rfl⟩
      have HM := hide hm0
      rw [← hm0]
      clear hm0
      have HL := hide (show m0 + xs[k].Ops.length ≤ 1048576 by
        have h1 := tot_take (fun x : Txn => x.Ops.countP (isW key value)) xs k hlt
        have h2 := tot_take (fun x : Txn => x.Ops.length) xs k hlt
        have h3 : tot (fun x : Txn => x.Ops.countP (isW key value)) (xs.take k) ≤ tot (fun x : Txn => x.Ops.length) (xs.take k) := tot_le_tot _ _ _ fun x _ => List.countP_le_length
        have h4 : tot (fun x : Txn => x.Ops.length) (xs.take (k + 1)) ≤ tot (fun x : Txn => x.Ops.length) xs := tot_mono _ _ _
        have h5 := HT.out
        have h6 := HM.out
        unfold opsN at h5
        unfold writesN at h6
        omega)
      have HR := hide hi3
      have HbS := hide (show b < wr.heap.size from Nat.lt_of_lt_of_le hbS hb.size)
      have Hc1 := hide c1
      clear hi3 hi2 hbS c0 c3
      go_wp2
      clear c1
      obtain ⟨wo, hwo⟩ : ∃ wo : World, wo = wr := ⟨_, rfl⟩
      rw [← hwo] at hb HR HbS Hc1 ⊢
      clear hwo
      go_loopw [7, 9] (fun m j wr2 => ∃ l : Nat, l ≤ xs[k].Ops.length ∧ j = .int .i64 l ∧ m = .int .i64 ((m0 + (xs[k].Ops.take l).countP (isW key value) : Nat)) ∧ Below wo.heap.size wo wr2) (fun _ j _ => xs[k].Ops.length - (intOf j).toNat)
      case atStart => exact ⟨0, Nat.zero_le _, rfl, by simp, Below.refl _ _⟩
      case round =>
        obtain ⟨l, hl, rfl, rfl, hb2⟩ := hrel
        have c1 := (hb2.cell (p := ⟨b, off + k * 3 + 1, none⟩) HbS.out).trans Hc1.out
        by_cases hlt2 : l < xs[k].Ops.length
        · obtain ⟨b2, off2, rfl, hbS2, d0, d1, d2⟩ := at_Op HR.out hb2 hlt2
          have hcp := countP_take (isW key value) xs[k].Ops l hlt2
          have hHL := HL.out
          cases hw : isW key value xs[k].Ops[l] with
          | true =>
            have hw' := hw
            simp only [isW, Bool.and_eq_true, beq_iff_eq] at hw'
            obtain ⟨⟨hw0, hw1⟩, hw2⟩ := hw'
            rw [hw0] at d0; rw [hw1] at d1; rw [hw2] at d2
            rw [hw, if_pos rfl] at hcp
            have hle : (xs[k].Ops.take l).countP (isW key value) ≤ l := Nat.le_trans List.countP_le_length (by simp; omega)
            generalize (xs[k].Ops.take l).countP (isW key value) = cn at hcp hle ⊢
            have HCP := hide hcp
            have hsum : IntKind.i64.wrap ((m0 + cn : Nat) + 1) = ((m0 + (cn + 1) : Nat) : Int) := by rw [IntWalk.i64_in _ (by omega)]; omega
            clear hw hw0 hw1 hw2 hcp
            go_wp2
            go_roundw
            case rel => exact ⟨l + 1, by omega, by go_num, by rw [HCP.out]; go_num, hb2⟩
            case measure => simp [intOf]; omega
          | false =>
            rw [hw] at hcp
            simp only [Bool.false_eq_true, if_false, Nat.add_zero] at hcp
            have HCP := hide hcp
            have HW := hide hw
            clear hw hcp
            go_wp2
            all_goals first
              | (exfalso; have hw := HW.out; simp [isW, *] at hw; done)
              | (go_roundw; (case rel => exact ⟨l + 1, by omega, by go_num, by rw [HCP.out]; go_num, hb2⟩); (case measure => simp [intOf]; omega))
        · obtain rfl : l = xs[k].Ops.length := by omega
          have hsum : m0 + (xs[k].Ops.take xs[k].Ops.length).countP (isW key value) = writesN (xs.take (k + 1)) key value := by
            have h1 := tot_take (fun x : Txn => x.Ops.countP (isW key value)) xs k hlt
            have h2 := HM.out
            unfold writesN at h2 ⊢
            rw [List.take_length]
            omega
          have HS := hide hsum
          clear hsum
          go_wp2
          go_roundw
          case rel => exact ⟨k + 1, by omega, by go_num, by rw [← HS.out], hb.trans (hb2.mono hb.size)⟩
          case measure => simp [intOf]; omega
    · obtain rfl : k = xs.length := by omega
      have HS := hide (show writesN (xs.take xs.length) key value = writesN xs key value by rw [List.take_length])
      clear HA HT
      go_wp2
      go_ret
      exact ⟨by rw [← HS.out]; rfl, hb⟩

def opFine (h : List Txn) (o : Op) : Bool := !(o.Kind == 2 && decide (1 < writesN h o.Key o.Value))
def txnFine (h : List Txn) (t : Txn) : Bool := txnOk t && t.Ops.all (opFine h)
def histV (h : List Txn) : Bool := h.all (txnFine h) && decide (h.length ≤ 6)

set_option maxRecDepth 10000 in
set_option maxHeartbeats 2000000 in
theorem specHistoryValid (xs : List Txn) (A : Option Addr) (c : Nat) (w : World) (hm : xs.length ≤ maxLen) (hA : Row tTxn w (Old w) A xs) (ht : opsN xs ≤ 1048576) :
    Calls Tryz.prog 49 #[.slice A xs.length c] w fun e w' => e = .returned (.bool (histV xs)) ∧ Below w.heap.size w w' := by
  have HW := hide (fun (key value : Int) (W : World) (hb : Below w.heap.size w W) => specWrites xs key value A c W hm (hA.old hb) ht)
  unfold maxLen at hm
  have HA := hide hA
  clear hA ht
  go_enter Tryz.func49, Tryz.ntmps49
  go_wp2
  go_loopw [3] (fun i wr => ∃ k : Nat, k ≤ xs.length ∧ i = .int .i64 k ∧ Hid (Upto (txnFine xs) xs k) ∧ Below w.heap.size w wr) (fun i _ => xs.length - (intOf i).toNat)
  case atStart => exact ⟨0, Nat.zero_le _, rfl, Upto.zero, Below.refl _ _⟩
  case round =>
    obtain ⟨k, hk, rfl, hI, hb⟩ := hrel
    by_cases hlt : k < xs.length
    · obtain ⟨b, off, A2, c2, rfl, hbS, c0, c1, c3, hi1, hi2, hi3⟩ := at_Txn HA.out hb hlt
      have HR := hide hi3
      have hm2 : xs[k].Ops.length ≤ maxLen := Nat.le_trans hi1 hi2
      have HCv := hide (specTxnValid xs[k] A2 c2 wr hm2 hi3)
      have hq2 : xs[k].Ops.length ≤ 9223372036854775807 := by simpa [maxLen] using hm2
      clear hi3 hi2 hm2
      cases hv : txnOk xs[k] with
      | false =>
        rw [hv] at HCv
        have HO := hide (show txnFine xs xs[k] = false by unfold txnFine; rw [hv]; rfl)
        clear hv
        go_wp2_with fail
        refine HCv.out.mono ?_
        rintro e w' ⟨rfl, hb'⟩
        go_wp2_with fail
        go_ret
        exact ⟨ret_bool (by unfold histV; rw [all_false hlt HO.out]; rfl), hb.trans (hb'.mono hb.size)⟩
      | true =>
        rw [hv] at HCv
        have HD := hide (show txnFine xs xs[k] = xs[k].Ops.all (opFine xs) by unfold txnFine; rw [hv]; rfl)
        clear hv
        have HbS := hide (show b < wr.heap.size from Nat.lt_of_lt_of_le hbS hb.size)
        have Hc1 := hide c1
        go_wp2_with fail
        refine HCv.out.mono ?_
        rintro e wo ⟨rfl, hb'⟩
        have Hc1 := hide ((hb'.cell (p := ⟨b, off + k * 3 + 1, none⟩) HbS.out).trans Hc1.out)
        have HR := hide (HR.out.old hb')
        have HB := hide (hb.trans (hb'.mono hb.size))
        have HbS := hide (Nat.lt_of_lt_of_le HbS.out hb'.size)
        clear c0 c1 c3 hb hb' HCv hbS
        go_wp2_with fail
        go_loopw [4] (fun j wr => ∃ l : Nat, l ≤ xs[k].Ops.length ∧ j = .int .i64 l ∧ Hid (Upto (opFine xs) xs[k].Ops l) ∧ Below wo.heap.size wo wr) (fun j _ => xs[k].Ops.length - (intOf j).toNat)
        case atStart => exact ⟨0, Nat.zero_le _, rfl, Upto.zero, Below.refl _ _⟩
        case round =>
          obtain ⟨l, hll, rfl, hJ, hb2⟩ := hrel
          have c1 := (hb2.cell (p := ⟨b, off + k * 3 + 1, none⟩) HbS.out).trans Hc1.out
          by_cases hlt2 : l < xs[k].Ops.length
          · obtain ⟨b2, off2, rfl, hbS2, d0, d1, d2⟩ := at_Op HR.out hb2 hlt2
            have HN := hide (Nat.le_trans (tot_le_tot (fun x : Txn => x.Ops.countP (isW xs[k].Ops[l].Key xs[k].Ops[l].Value)) (fun x : Txn => x.Ops.length) xs fun x _ => List.countP_le_length) (Nat.le_refl _))
            cases hk2 : (xs[k].Ops[l].Kind == 2) with
            | false =>
              have HO := hide (show opFine xs xs[k].Ops[l] = true by unfold opFine; rw [hk2]; rfl)
              go_wp2_with fail
              go_roundw
              case rel => exact ⟨l + 1, by omega, by go_num, hJ.out.succ hlt2 HO.out, hb2.alloc hb2.size _⟩
              case measure => simp [intOf]; omega
            | true =>
              have HW2 := hide (HW.out xs[k].Ops[l].Key xs[k].Ops[l].Value _ ((HB.out.trans (hb2.mono HB.out.size)).alloc (Nat.le_trans HB.out.size hb2.size) (.cells #[.int .i64 xs[k].Ops[l].Kind, .int .i64 xs[k].Ops[l].Key, .int .i64 xs[k].Ops[l].Value] 82)))
              have HO1 := hide (show opFine xs xs[k].Ops[l] = !decide (1 < writesN xs xs[k].Ops[l].Key xs[k].Ops[l].Value) by unfold opFine; rw [hk2]; rfl)
              generalize writesN xs xs[k].Ops[l].Key xs[k].Ops[l].Value = nw at HW2 HO1
              by_cases hw1 : 1 < nw
              · have HO := hide (show opFine xs xs[k].Ops[l] = false by rw [HO1.out]; simp [hw1])
                have hw1' : (1 : Int) < (nw : Int) := by omega
                clear hw1
                go_wp2_with (go_at_call 95; refine HW2.out.mono ?_; rintro e w9 ⟨rfl, hb9⟩; have HB9 := hide hb9; clear hb9)
                go_ret
                exact ⟨ret_bool (by unfold histV; rw [all_false hlt (by rw [HD.out]; exact all_false hlt2 HO.out)]; rfl), (HB.out.trans (((hb2.alloc hb2.size _).trans (HB9.out.mono (Nat.le_trans hb2.size (by simp)))).mono HB.out.size))⟩
              · have HO := hide (show opFine xs xs[k].Ops[l] = true by rw [HO1.out]; simp [hw1])
                have hw1' : ¬ (1 : Int) < (nw : Int) := by omega
                clear hw1
                go_wp2_with (go_at_call 95; refine HW2.out.mono ?_; rintro e w9 ⟨rfl, hb9⟩; have HB9 := hide hb9; clear hb9)
                go_roundw
                case rel => exact ⟨l + 1, by omega, by go_num, hJ.out.succ hlt2 HO.out, (hb2.alloc hb2.size _).trans (HB9.out.mono (Nat.le_trans hb2.size (by simp)))⟩
                case measure => simp [intOf]; omega
          · obtain rfl : l = xs[k].Ops.length := by omega
            have HO := hide (show txnFine xs xs[k] = true by rw [HD.out]; exact hJ.out.all)
            clear hJ
            go_wp2_with fail
            go_roundw
            case rel => exact ⟨k + 1, by omega, by go_num, hI.out.succ hlt HO.out, HB.out.trans (hb2.mono HB.out.size)⟩
            case measure => simp [intOf]; omega
    · obtain rfl : k = xs.length := by omega
      have HV := hide (show histV xs = decide (xs.length ≤ 6) by unfold histV; rw [hI.out.all, Bool.true_and])
      clear hI HW HA
      go_wp2
      go_ret
      exact ⟨ret_bool (by rw [HV.out]; simp; try omega), hb⟩
end Go.Proofs.YtjiobgfaohldhaaGreat
namespace Go.Proofs.YtjiobgfaohldhaaGreat
open Go.RowKit

set_option maxHeartbeats 400000 in
theorem idx_Op (xs : List Op) (A : Option Addr) (c : Nat) (w : World) (g : Nat) (lb : Array Value) (p : Op → Bool)
    (eg : ∀ args w, (callFunc g args).run Tryz.prog w = .ok (.enter g args) w) (hl : xs.length ≤ maxLen) (hR : Row tOp w (Old w) A xs)
    (hf : ∀ x ∈ xs, ∀ cs, tOp.rel w (Old w) x cs → Pred Tryz.prog g lb w (one_ cs) (p x)) :
    Calls Tryz.prog 150 #[.slice A xs.length c, .func (.func g) #[] lb] w fun e w' => e = .returned (.int .i64 (idx p xs)) ∧ Below w.heap.size w w' := by
  unfold maxLen at hl
  go_enter Tryz.func150, Tryz.ntmps150
  go_wp2
  go_loopw [5, 8] (fun _ i wr => ∃ k : Nat, k ≤ xs.length ∧ i = .int .i64 k ∧ Hid (∀ j (hj : j < xs.length), j < k → p xs[j] = false) ∧ Below w.heap.size w wr) (fun _ i _ => xs.length - (intOf i).toNat)
  case atStart => exact ⟨0, Nat.zero_le _, rfl, (fun j hj h => absurd h (by omega)), Below.refl _ _⟩
  case round =>
    obtain ⟨k, hk, rfl, hI, hb⟩ := hrel
    by_cases hlt : k < xs.length
    · obtain ⟨b, off, rfl, hbS, hc⟩ := hR (by omega)
      obtain ⟨cs, hr, hcs⟩ := hc k hlt
      have hp := hf xs[k] (List.getElem_mem hlt) cs hr wr hb
      obtain rfl := hr
      have c0 := (hb.cell (p := ⟨b, off + k * tOp.size + 0, none⟩) hbS).trans (hcs 0 _ rfl)
      have c1 := (hb.cell (p := ⟨b, off + k * tOp.size + 1, none⟩) hbS).trans (hcs 1 _ rfl)
      have c2 := (hb.cell (p := ⟨b, off + k * tOp.size + 2, none⟩) hbS).trans (hcs 2 _ rfl)
      clear hc hf hR hcs
      simp only [tOp, flat, Nat.add_zero] at c0 c1 c2
      simp only [one_] at hp
      cases hq : p xs[k] with
      | true =>
        rw [hq] at hp
        have HQ := hide hq; clear hq
        go_wp2_with (go_at_fn g; refine hp.mono ?_; rintro e w' ⟨rfl, hb'⟩)
        go_ret
        exact ⟨ret_int (idx_hit p xs k hlt HQ.out hI.out).symm, hb'⟩
      | false =>
        rw [hq] at hp
        have HQ := hide hq; clear hq
        go_wp2_with (go_at_fn g; refine hp.mono ?_; rintro e w' ⟨rfl, hb'⟩)
        go_roundw
        case rel => exact ⟨k + 1, by omega, by go_num, (fun j hj h => by rcases Nat.lt_succ_iff_lt_or_eq.1 h with h | rfl; exact hI.out j hj h; exact HQ.out), hb'⟩
        case measure => simp [intOf]; omega
    · have hI2 : Hid (∀ j (hj : j < xs.length), p xs[j] = false) := fun j hj => hI.out j hj (by omega)
      clear hI hR hf
      go_wp2
      go_ret
      exact ⟨ret_int (idx_miss p xs hI2.out).symm, hb⟩
theorem cont_Op (xs : List Op) (A : Option Addr) (c : Nat) (w : World) (g : Nat) (lb : Array Value) (p : Op → Bool)
    (eg : ∀ args w, (callFunc g args).run Tryz.prog w = .ok (.enter g args) w) (hl : xs.length ≤ maxLen) (hR : Row tOp w (Old w) A xs)
    (hf : ∀ x ∈ xs, ∀ cs, tOp.rel w (Old w) x cs → Pred Tryz.prog g lb w (one_ cs) (p x)) :
    Calls Tryz.prog 134 #[.slice A xs.length c, .func (.func g) #[] lb] w fun e w' => e = .returned (.bool (xs.any p)) ∧ Below w.heap.size w w' := by
  have H := hide (idx_Op xs A c w g lb p eg hl hR hf)
  clear hR hf
  go_enter Tryz.func134, Tryz.ntmps134
  go_wp2_with (go_at_call 150; refine H.out.mono ?_; rintro e w' ⟨rfl, hb'⟩)
  go_ret
  refine ⟨ret_bool ?_, hb'⟩
  rw [Bool.eq_iff_iff, ← idx_neg, decide_eq_true_iff]

set_option maxHeartbeats 400000 in
theorem idx_Edge (xs : List Edge) (A : Option Addr) (c : Nat) (w : World) (g : Nat) (lb : Array Value) (p : Edge → Bool)
    (eg : ∀ args w, (callFunc g args).run Tryz.prog w = .ok (.enter g args) w) (hl : xs.length ≤ maxLen) (hR : Row tEdge w (Old w) A xs)
    (hf : ∀ x ∈ xs, ∀ cs, tEdge.rel w (Old w) x cs → Pred Tryz.prog g lb w (one_ cs) (p x)) :
    Calls Tryz.prog 141 #[.slice A xs.length c, .func (.func g) #[] lb] w fun e w' => e = .returned (.int .i64 (idx p xs)) ∧ Below w.heap.size w w' := by
  unfold maxLen at hl
  go_enter Tryz.func141, Tryz.ntmps141
  go_wp2
  go_loopw [5, 8] (fun _ i wr => ∃ k : Nat, k ≤ xs.length ∧ i = .int .i64 k ∧ Hid (∀ j (hj : j < xs.length), j < k → p xs[j] = false) ∧ Below w.heap.size w wr) (fun _ i _ => xs.length - (intOf i).toNat)
  case atStart => exact ⟨0, Nat.zero_le _, rfl, (fun j hj h => absurd h (by omega)), Below.refl _ _⟩
  case round =>
    obtain ⟨k, hk, rfl, hI, hb⟩ := hrel
    by_cases hlt : k < xs.length
    · obtain ⟨b, off, rfl, hbS, hc⟩ := hR (by omega)
      obtain ⟨cs, hr, hcs⟩ := hc k hlt
      have hp := hf xs[k] (List.getElem_mem hlt) cs hr wr hb
      obtain rfl := hr
      have c0 := (hb.cell (p := ⟨b, off + k * tEdge.size + 0, none⟩) hbS).trans (hcs 0 _ rfl)
      have c1 := (hb.cell (p := ⟨b, off + k * tEdge.size + 1, none⟩) hbS).trans (hcs 1 _ rfl)
      have c2 := (hb.cell (p := ⟨b, off + k * tEdge.size + 2, none⟩) hbS).trans (hcs 2 _ rfl)
      clear hc hf hR hcs
      simp only [tEdge, flat, Nat.add_zero] at c0 c1 c2
      simp only [one_] at hp
      cases hq : p xs[k] with
      | true =>
        rw [hq] at hp
        have HQ := hide hq; clear hq
        go_wp2_with (go_at_fn g; refine hp.mono ?_; rintro e w' ⟨rfl, hb'⟩)
        go_ret
        exact ⟨ret_int (idx_hit p xs k hlt HQ.out hI.out).symm, hb'⟩
      | false =>
        rw [hq] at hp
        have HQ := hide hq; clear hq
        go_wp2_with (go_at_fn g; refine hp.mono ?_; rintro e w' ⟨rfl, hb'⟩)
        go_roundw
        case rel => exact ⟨k + 1, by omega, by go_num, (fun j hj h => by rcases Nat.lt_succ_iff_lt_or_eq.1 h with h | rfl; exact hI.out j hj h; exact HQ.out), hb'⟩
        case measure => simp [intOf]; omega
    · have hI2 : Hid (∀ j (hj : j < xs.length), p xs[j] = false) := fun j hj => hI.out j hj (by omega)
      clear hI hR hf
      go_wp2
      go_ret
      exact ⟨ret_int (idx_miss p xs hI2.out).symm, hb⟩
theorem cont_Edge (xs : List Edge) (A : Option Addr) (c : Nat) (w : World) (g : Nat) (lb : Array Value) (p : Edge → Bool)
    (eg : ∀ args w, (callFunc g args).run Tryz.prog w = .ok (.enter g args) w) (hl : xs.length ≤ maxLen) (hR : Row tEdge w (Old w) A xs)
    (hf : ∀ x ∈ xs, ∀ cs, tEdge.rel w (Old w) x cs → Pred Tryz.prog g lb w (one_ cs) (p x)) :
    Calls Tryz.prog 120 #[.slice A xs.length c, .func (.func g) #[] lb] w fun e w' => e = .returned (.bool (xs.any p)) ∧ Below w.heap.size w w' := by
  have H := hide (idx_Edge xs A c w g lb p eg hl hR hf)
  clear hR hf
  go_enter Tryz.func120, Tryz.ntmps120
  go_wp2_with (go_at_call 141; refine H.out.mono ?_; rintro e w' ⟨rfl, hb'⟩)
  go_ret
  refine ⟨ret_bool ?_, hb'⟩
  rw [Bool.eq_iff_iff, ← idx_neg, decide_eq_true_iff]

end Go.Proofs.YtjiobgfaohldhaaGreat
namespace Go.Proofs.YtjiobgfaohldhaaGreat
open Go.RowKit

set_option maxHeartbeats 400000 in
theorem idx_Txn (xs : List Txn) (A : Option Addr) (c : Nat) (w : World) (g : Nat) (lb : Array Value) (p : Txn → Bool)
    (eg : ∀ args w, (callFunc g args).run Tryz.prog w = .ok (.enter g args) w) (hl : xs.length ≤ maxLen) (hR : Row tTxn w (Old w) A xs)
    (hf : ∀ x ∈ xs, ∀ cs, tTxn.rel w (Old w) x cs → Pred Tryz.prog g lb w (one_ cs) (p x)) :
    Calls Tryz.prog 132 #[.slice A xs.length c, .func (.func g) #[] lb] w fun e w' => e = .returned (.int .i64 (idx p xs)) ∧ Below w.heap.size w w' := by
  unfold maxLen at hl
  go_enter Tryz.func132, Tryz.ntmps132
  go_wp2
  go_loopw [5, 8] (fun _ i wr => ∃ k : Nat, k ≤ xs.length ∧ i = .int .i64 k ∧ Hid (∀ j (hj : j < xs.length), j < k → p xs[j] = false) ∧ Below w.heap.size w wr) (fun _ i _ => xs.length - (intOf i).toNat)
  case atStart => exact ⟨0, Nat.zero_le _, rfl, (fun j hj h => absurd h (by omega)), Below.refl _ _⟩
  case round =>
    obtain ⟨k, hk, rfl, hI, hb⟩ := hrel
    by_cases hlt : k < xs.length
    · obtain ⟨b, off, rfl, hbS, hc⟩ := hR (by omega)
      obtain ⟨cs, hr, hcs⟩ := hc k hlt
      have hp := hf xs[k] (List.getElem_mem hlt) cs hr wr hb
      obtain ⟨v, rfl, A2, c2, rfl, hs1, hs2, hs3⟩ := hr
      have c0 := (hb.cell (p := ⟨b, off + k * tTxn.size + 0, none⟩) hbS).trans (hcs 0 _ rfl)
      have c1 := (hb.cell (p := ⟨b, off + k * tTxn.size + 1, none⟩) hbS).trans (hcs 1 _ rfl)
      have c2 := (hb.cell (p := ⟨b, off + k * tTxn.size + 2, none⟩) hbS).trans (hcs 2 _ rfl)
      clear hc hf hR hcs
      simp only [tTxn, Nat.add_zero] at c0 c1 c2
      simp only [one_] at hp
      cases hq : p xs[k] with
      | true =>
        rw [hq] at hp
        have HQ := hide hq; clear hq
        go_wp2_with (go_at_fn g; refine hp.mono ?_; rintro e w' ⟨rfl, hb'⟩)
        go_ret
        exact ⟨ret_int (idx_hit p xs k hlt HQ.out hI.out).symm, hb'⟩
      | false =>
        rw [hq] at hp
        have HQ := hide hq; clear hq
        go_wp2_with (go_at_fn g; refine hp.mono ?_; rintro e w' ⟨rfl, hb'⟩)
        go_roundw
        case rel => exact ⟨k + 1, by omega, by go_num, (fun j hj h => by rcases Nat.lt_succ_iff_lt_or_eq.1 h with h | rfl; exact hI.out j hj h; exact HQ.out), hb'⟩
        case measure => simp [intOf]; omega
    · have hI2 : Hid (∀ j (hj : j < xs.length), p xs[j] = false) := fun j hj => hI.out j hj (by omega)
      clear hI hR hf
      go_wp2
      go_ret
      exact ⟨ret_int (idx_miss p xs hI2.out).symm, hb⟩
theorem cont_Txn (xs : List Txn) (A : Option Addr) (c : Nat) (w : World) (g : Nat) (lb : Array Value) (p : Txn → Bool)
    (eg : ∀ args w, (callFunc g args).run Tryz.prog w = .ok (.enter g args) w) (hl : xs.length ≤ maxLen) (hR : Row tTxn w (Old w) A xs)
    (hf : ∀ x ∈ xs, ∀ cs, tTxn.rel w (Old w) x cs → Pred Tryz.prog g lb w (one_ cs) (p x)) :
    Calls Tryz.prog 106 #[.slice A xs.length c, .func (.func g) #[] lb] w fun e w' => e = .returned (.bool (xs.any p)) ∧ Below w.heap.size w w' := by
  have H := hide (idx_Txn xs A c w g lb p eg hl hR hf)
  clear hR hf
  go_enter Tryz.func106, Tryz.ntmps106
  go_wp2_with (go_at_call 132; refine H.out.mono ?_; rintro e w' ⟨rfl, hb'⟩)
  go_ret
  refine ⟨ret_bool ?_, hb'⟩
  rw [Bool.eq_iff_iff, ← idx_neg, decide_eq_true_iff]

end Go.Proofs.YtjiobgfaohldhaaGreat
