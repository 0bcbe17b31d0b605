/- Lists that have the same different numbers: the reference's l7Same. Where the numbers ascend, the sorted list is the other one. -/
import Derived.Test.YtaaagoppecnmmaaDoorElems
import Derived.Test.YtaaagoppecnmmaaDoorProg
import Derived.BigQuiet
import Derived.Test.YtaaagoppecnmmaaDoorSortI
import Derived.Test.YtaaagoppecnmmaaDoorHMath
namespace Go.Proofs.YtaaagoppecnmmaaDoor
open Go.RowKit
set_option linter.unusedVariables false
set_option linter.unusedSimpArgs false

def sameB (a b : List Int) : Bool := b.all (fun d => a.count d == 1) && decide (a.length = b.length)
theorem same_perm : ∀ (b a : List Int), b.Nodup → (∀ d ∈ b, a.count d = 1) → a.length = b.length → a.Perm b
  | [], a, _, _, hl => by
    have : a = [] := List.eq_nil_of_length_eq_zero hl
    subst this
    exact .refl _
  | d :: b, a, hn, hc, hl => by
    have hd : d ∈ a := List.count_pos_iff.1 (by rw [hc d (List.mem_cons_self)]; omega)
    have hp := List.perm_cons_erase hd
    have hn' := List.nodup_cons.1 hn
    have h2 := same_perm b (a.erase d) hn'.2 (fun e he => by
      rw [List.count_erase_of_ne (by rintro rfl; exact hn'.1 he)]
      exact hc e (List.mem_cons_of_mem _ he)) (by rw [List.length_erase_of_mem hd, hl]; simp)
    exact hp.trans (h2.cons d)
theorem same_iff {a b : List Int} (hn : b.Nodup) : sameB a b = true ↔ a.Perm b := by
  unfold sameB
  rw [Bool.and_eq_true, decide_eq_true_iff, List.all_eq_true]
  refine ⟨fun ⟨h1, h2⟩ => same_perm b a hn (fun d hd => by simpa using h1 d hd) h2, fun hp => ⟨fun d hd => ?_, hp.length_eq⟩⟩
  rw [hp.count_eq, hn.count, if_pos hd]
  rfl
theorem count_take7 (l : List Int) (n : Int) (k : Nat) (hk : k < l.length) : (l.take (k + 1)).count n = (l.take k).count n + (if l[k] = n then 1 else 0) := by
  rw [List.take_succ_eq_append_getElem hk, List.count_append]
  congr 1
  split
  · rename_i h; rw [h]; simp
  · rename_i h; exact List.count_eq_zero.2 (by simp; exact fun e => h e.symm)
theorem same_stop {a b : List Int} (k : Nat) (hk : k < b.length) (h : (a.count b[k] == 1) = false) : sameB a b = false := by
  unfold sameB
  rw [show b.all (fun d => a.count d == 1) = false from List.all_eq_false.2 ⟨b[k], List.getElem_mem hk, by simpa using h⟩]
  rfl
set_option maxRecDepth 10000 in
set_option maxHeartbeats 2000000 in
theorem specSame (a b : List Int) (A B : Option Addr) (c d : Nat) (w : World) (ha : a.length ≤ maxLen) (hb : b.length ≤ maxLen) (hA : Row tInt w (Old w) A a) (hB : Row tInt w (Old w) B b) :
    Calls Tryd.prog 139 #[.slice A a.length c, .slice B b.length d] w fun e w' => e = .returned (.bool (sameB a b)) ∧ Below w.heap.size w w' := by
  have hqa : a.length ≤ 9223372036854775807 := by simpa [maxLen] using ha
  have hqb : b.length ≤ 9223372036854775807 := by simpa [maxLen] using hb
  have HA := hide hA; have HB := hide hB
  have HSm := hide (show sameB a b = (b.all (fun d => a.count d == 1) && decide (a.length = b.length)) from rfl)
  clear hA hB ha hb
  go_enter Tryd.func139, Tryd.ntmps139
  go_wp2_with fail
  go_loopw [5, 6, 7] (fun i _ _ wr => ∃ k : Nat, k ≤ b.length ∧ i = .int .i64 k ∧ Hid ((b.take k).all (fun d => a.count d == 1) = true) ∧ Hid (Below w.heap.size w wr)) (fun i _ _ _ => b.length - (intOf i).toNat)
  case atStart => exact ⟨0, Nat.zero_le _, rfl, rfl, Below.refl _ _⟩
  case round =>
    obtain ⟨k, hk, rfl, hN, hbw⟩ := hrel
    have HN := hide hN.out; have Hb := hide hbw.out
    clear hN hbw
    by_cases hlt : k < b.length
    · have HTk := hide (show (b.take (k + 1)).all (fun d => a.count d == 1) = (a.count b[k] == 1) by rw [List.take_succ_eq_append_getElem hlt, List.all_append, HN.out]; simp)
      have HSt := hide (same_stop (a := a) k hlt)
      obtain ⟨bb, offb, rfl, hbSb, _⟩ := at_Int HB.out Hb.out hlt
      have HCell := hide (fun (W : World) (hW : Below w.heap.size w W) => at_Int HB.out hW hlt)
      generalize hy : b[k] = y at HTk HSt HCell
      have HY := hide hy
      clear hy
      go_wp2_with fail
      go_loopw [6, 7] (fun m j wr2 => ∃ (l q : Nat), l ≤ a.length ∧ j = .int .i64 l ∧ m = .int .i64 q ∧ Hid (q = (a.take l).count y) ∧ q ≤ l ∧ Hid (Below w.heap.size w wr2)) (fun _ j _ => a.length - (intOf j).toNat)
      case atStart => exact ⟨0, 0, Nat.zero_le _, rfl, rfl, by simp [Hid], Nat.le_refl _, Hb.out⟩
      case round =>
        obtain ⟨l, q, hl, rfl, rfl, hq, hql, hbw⟩ := hrel
        have Hq := hide hq.out; have Hb2 := hide hbw.out
        clear hq hbw
        by_cases hlt2 : l < a.length
        · obtain ⟨ba, offa, rfl, hbSa, c0⟩ := at_Int HA.out Hb2.out hlt2
          obtain ⟨b', off', hBe, _, d0⟩ := HCell.out _ Hb2.out
          obtain ⟨rfl, rfl⟩ : bb = b' ∧ offb = off' := by simpa using hBe
          have HS := hide (count_take7 a y l hlt2)
          clear hBe
          generalize a[l] = x at c0 HS
          cases he : (x == y) with
          | true =>
            have HS2 := hide (show q + 1 = (a.take (l + 1)).count y by rw [HS.out, if_pos (by simpa using he), Hq.out])
            clear HS
            go_wp2_with fail
            go_quiet (fail)
            go_wp2_with fail
            go_roundw
            case rel => exact ⟨l + 1, q + 1, by omega, by go_num, by go_num, HS2.out, by omega, below_drewN Hb2.out _⟩
            case measure => simp [intOf]; omega
          | false =>
            have HS2 := hide (show q = (a.take (l + 1)).count y by rw [HS.out, if_neg (by simpa using he), ← Hq.out]; rfl)
            clear HS
            go_wp2_with fail
            go_quiet (fail)
            go_wp2_with fail
            go_roundw
            case rel => exact ⟨l + 1, q, by omega, by go_num, rfl, HS2.out, by omega, below_drewN Hb2.out _⟩
            case measure => simp [intOf]; omega
        · obtain rfl : l = a.length := by omega
          have HQ := hide (show q = a.count y by have := Hq.out; rwa [List.take_length] at this)
          clear Hq
          rw [← HQ.out] at HTk HSt
          cases hq1 : (q == 1) with
          | true =>
            have hqi : ((q : Int) != 1) = false := by rw [beq_iff_eq] at hq1; rw [bne_eq_false_iff_eq]; omega
            have HT2 := hide (HTk.out.trans hq1)
            clear hq1 HTk HSt
            go_wp2_with fail
            go_roundw
            case rel => exact ⟨k + 1, by omega, by go_num, HT2.out, Hb2.out⟩
            case measure => simp [intOf]; omega
          | false =>
            have hqi : ((q : Int) != 1) = true := by rw [beq_eq_false_iff_ne] at hq1; rw [bne_iff_ne]; omega
            have HF := hide (HSt.out hq1)
            clear hq1 HTk HSt
            go_wp2_with fail
            go_ret
            exact ⟨ret_bool HF.out.symm, Hb2.out⟩
    · obtain rfl : k = b.length := by omega
      have HT := hide (show sameB a b = ((a.length : Int) == (b.length : Int)) by
        have h9 := HN.out
        rw [List.take_length] at h9
        rw [HSm.out, h9, Bool.true_and, Bool.eq_iff_iff, decide_eq_true_iff, beq_iff_eq]
        omega)
      clear HN HSm
      go_wp2_with fail
      go_ret
      exact ⟨ret_bool HT.out.symm, Hb.out⟩
theorem srt_sorted (zs : List Int) : (srt zs).Pairwise (· ≤ ·) :=
  (List.pairwise_mergeSort (le := fun x y : Int => decide (x ≤ y)) (fun a b c h1 h2 => by simp at *; omega) (fun a b => by simp; omega) zs).imp (fun h => by simpa using h)
theorem srt_perm_eq {a b : List Int} (h : a.Perm b) : srt a = srt b :=
  List.Perm.eq_of_pairwise (le := (· ≤ ·)) (fun x y _ _ h1 h2 => by omega) (srt_sorted a) (srt_sorted b) ((srt_perm a).trans (h.trans (srt_perm b).symm))
/-- Sorted lists are one just where one is the other in some order. -/
theorem srt_eq {a b : List Int} : srt a = srt b ↔ a.Perm b :=
  ⟨fun h => (srt_perm a).symm.trans (by rw [h]; exact srt_perm b), srt_perm_eq⟩
theorem srt_self {b : List Int} (hb : b.Pairwise (· ≤ ·)) : srt b = b :=
  List.mergeSort_of_pairwise (hb.imp (fun h => by simpa using h))
theorem doneI_up (h : List Txn) : ∀ k, (doneI h k).Pairwise (· ≤ ·)
  | 0 => List.Pairwise.nil
  | k + 1 => by
    have h1 := doneI_up h k
    by_cases hk : k < h.length
    · rw [doneI_succ h k hk, List.pairwise_append]
      refine ⟨h1, ?_, fun a ha b hb => ?_⟩
      · split
        · exact List.pairwise_singleton _ _
        · exact List.Pairwise.nil
      · have := (doneI_mem h k a ha).2
        split at hb
        · simp only [List.mem_singleton] at hb; omega
        · cases hb
    · rw [show doneI h (k + 1) = doneI h k by rw [doneI, List.getElem?_eq_none (by omega)]; simp]
      exact h1
theorem doneL_up (h : List Txn) : (doneL h).Pairwise (· ≤ ·) := doneI_up h _
/-- What the program asks is what the reference asks. -/
theorem srt_done (h : List Txn) (ns : List Int) : decide (srt ns = doneL h) = sameB ns (doneL h) := by
  rw [Bool.eq_iff_iff, decide_eq_true_iff, same_iff (show (doneL h).Nodup from doneI_nodup h _)]
  rw [← srt_eq, srt_self (doneL_up h)]
end Go.Proofs.YtaaagoppecnmmaaDoor
