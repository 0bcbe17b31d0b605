/- ListsValid of the program and of the reference answer alike. -/
import Derived.Test.YtcfllpgppinofaaDoorRanges
import Derived.Test.YtcfllpgppinofaaDoorIdx
import Derived.Test.YtcfllpgppinofaaDoorContB
namespace Go.Proofs.YtcfllpgppinofaaDoor
open Go.RowKit

/-- Numbers in range, each once. -/
def numOk (xs : List Int) (x : Int) : Bool := inR x 1 99 && decide (xs.countP (fun y => y == x) = 1)
def numsOk (xs : List Int) : Bool := xs.all (numOk xs)
def listV (xs : List Int) : Bool := decide (xs.length ≤ 8) && numsOk xs
def listsV (ls : List (List Int)) : Bool := decide (ls.length ≤ 8) && ls.all listV
/-- As the program asks it: in range, and not before. -/
def firstOk (xs : List Int) (k : Nat) : Bool := match xs[k]? with
  | some x => inR x 1 99 && !((xs.take k).any fun y => x == y)
  | none => true
theorem firstOk_eq {xs : List Int} {k : Nat} (h : k < xs.length) : firstOk xs k = (inR xs[k] 1 99 && !((xs.take k).any fun y => xs[k] == y)) := by
  unfold firstOk; rw [List.getElem?_eq_getElem h]
theorem numsOk_of {xs : List Int} (h : ∀ k, k < xs.length → firstOk xs k = true) : numsOk xs = true := by
  have hc : ∀ (x : Int) (n : Nat), (xs.take n).countP (fun y => y == x) ≤ 1 := by
    intro x n
    induction n with
    | zero => simp
    | succ n ih =>
      rcases Nat.lt_or_ge n xs.length with hn | hn
      · rw [countP_take _ _ _ hn]
        by_cases hx : (xs[n] == x) = true
        · have h1 := h n hn
          rw [firstOk_eq hn] at h1
          simp only [Bool.and_eq_true, Bool.not_eq_true', List.any_eq_false] at h1
          have h0 : (xs.take n).countP (fun y => y == x) = 0 := by
            rw [List.countP_eq_zero]
            intro y hy he
            have := h1.2 y hy
            rw [beq_iff_eq] at hx he
            simp [hx, he] at this
          rw [h0]; simp [hx]
        · simp only [hx]; simpa using ih
      · rw [List.take_of_length_le (by omega)] at ih ⊢; exact ih
  unfold numsOk
  rw [List.all_eq_true]
  intro x hx
  obtain ⟨k, hk, rfl⟩ := List.getElem_of_mem hx
  have h1 := h k hk
  rw [firstOk_eq hk] at h1
  simp only [Bool.and_eq_true] at h1
  have h2 := hc xs[k] xs.length
  rw [List.take_length] at h2
  have h3 : 0 < xs.countP (fun y => y == xs[k]) := List.countP_pos_iff.2 ⟨xs[k], List.getElem_mem hk, by simp⟩
  simp only [numOk, Bool.and_eq_true, decide_eq_true_eq]
  exact ⟨h1.1, by omega⟩
theorem numsOk_not {xs : List Int} {k : Nat} (hk : k < xs.length) (h : firstOk xs k = false) : numsOk xs = false := by
  rw [firstOk_eq hk] at h
  rw [← Bool.not_eq_true]
  intro h1
  unfold numsOk at h1
  rw [List.all_eq_true] at h1
  have h2 := h1 _ (List.getElem_mem hk)
  simp only [numOk, Bool.and_eq_true, decide_eq_true_eq] at h2
  rw [h2.1, Bool.true_and, Bool.not_eq_false', List.any_eq_true] at h
  obtain ⟨y, hy, he⟩ := h
  rw [beq_iff_eq] at he
  have e0 : ∀ z, xs.countP (fun y => y == z) = (xs.take k).countP (fun y => y == z) + (xs.drop k).countP (fun y => y == z) := fun z =>
    (congrArg (List.countP (fun y => y == z)) (List.take_append_drop k xs)).symm.trans List.countP_append
  have e := e0 xs[k]
  have p1 : 0 < (xs.take k).countP (fun z => z == xs[k]) := List.countP_pos_iff.2 ⟨y, hy, by simp [he]⟩
  have p2 : 0 < (xs.drop k).countP (fun z => z == xs[k]) := List.countP_pos_iff.2 ⟨xs[k], by rw [List.drop_eq_getElem_cons hk]; exact List.mem_cons_self, by simp⟩
  omega

set_option maxRecDepth 10000 in
set_option maxHeartbeats 1000000 in
theorem specListsValid (ls : List (List Int)) (A : Option Addr) (c : Nat) (w : World) (hl : ls.length ≤ maxLen) (hA : Row (tSlice tInt) w (Old w) A ls) :
    Calls Tryd.prog 38 #[.slice A ls.length c] w fun e w' => e = .returned (.bool (listsV ls)) ∧ Below w.heap.size w w' := by
  unfold maxLen at hl
  have HA := hide hA
  clear hA
  go_enter Tryd.func38, Tryd.ntmps38
  go_wp2
  go_loopw [3] (fun i wr => ∃ k : Nat, k ≤ ls.length ∧ i = .int .i64 k ∧ Hid (Upto listV ls k) ∧ Below w.heap.size w wr) (fun i _ => ls.length - (intOf i).toNat)
  case atStart => exact ⟨0, Nat.zero_le _, rfl, Upto.zero, Below.refl _ _⟩
  case round =>
    obtain ⟨k, hk, rfl, hI, hb⟩ := hrel
    by_cases hlt : k < ls.length
    · go_wp2
      obtain ⟨wo, rfl⟩ : ∃ wo : World, wo = wr := ⟨_, rfl⟩
      go_loopw [4] (fun j wr => ∃ l : Nat, l ≤ ls[k].length ∧ j = .int .i64 l ∧ Hid (Upto (numOk ls[k]) ls[k] l) ∧ Below w.heap.size w wr) (fun j _ => ls[k].length - (intOf j).toNat)
      case atStart => exact ⟨0, Nat.zero_le _, rfl, Upto.zero, hb⟩
      case round =>
        obtain ⟨l, hll, rfl, hJ, hb2⟩ := hrel
        clear hb
        obtain ⟨b, off, A2, c2, rfl, hbS, c0, hi1, hi2, hi3⟩ := at_IntS HA.out hb2 hlt
        have HR := hide hi3
        have HRn : Hid (∀ n, Row tInt (wr.drewN n) (Old (wr.drewN n)) A2 ls[k]) := fun n => hi3
        clear hi3
        have hm : ls[k].length ≤ 9223372036854775807 := by simp only [maxLen] at hi2; omega
        have HM := hide (Nat.le_trans hi1 hi2)
        clear hi2
        by_cases hlt2 : l < ls[k].length
        · obtain ⟨b', off', rfl, hbS', d0⟩ := at_Int HR.out (Below.refl _ _) hlt2
          cases hq : inR ls[k][l] 1 99 with
          | true =>
            by_cases hcn : ls[k].countP (fun y => y == ls[k][l]) = 1
            · have HOk := hide (show numOk ls[k] ls[k][l] = true by unfold numOk; rw [hq]; simp [hcn])
              have hn0 : (((ls[k].countP (fun y => y == ls[k][l]) : Nat) : Int) != 1) = false := by rw [hcn]; rfl
              generalize hgen : ls[k].countP (fun y => y == ls[k][l]) = cnt at hn0 hcn
              have HG := hide hgen; have HCN := hide hcn
              clear hgen hcn
              go_wp2
              go_quiet ((first | (go_at_call 61; exact Calls.quiet_of_same ((l1In _ _ _ _).mono (fun _ _ h => ⟨h.1, h.2.symm⟩))) | (go_at_call 79; exact Calls.quiet_of_same ((l13Count ls[k] ls[k][l] _ _ _ HM.out (HRn.out _)).mono (fun _ _ h => ⟨by rw [h.1, HG.out], h.2.symm⟩)))))
              go_wp2
              go_roundw
              case rel => exact ⟨l + 1, by omega, by go_num, hJ.out.succ hlt2 HOk.out, below_drewN hb2 _⟩
              case measure => simp [intOf]; omega
            · have HOk := hide (show numOk ls[k] ls[k][l] = false by unfold numOk; simp [hcn])
              have hn0 : (((ls[k].countP (fun y => y == ls[k][l]) : Nat) : Int) != 1) = true := by simp; omega
              generalize hgen : ls[k].countP (fun y => y == ls[k][l]) = cnt at hn0 hcn
              have HG := hide hgen
              clear hgen hcn
              go_wp2
              go_quiet ((first | (go_at_call 61; exact Calls.quiet_of_same ((l1In _ _ _ _).mono (fun _ _ h => ⟨h.1, h.2.symm⟩))) | (go_at_call 79; exact Calls.quiet_of_same ((l13Count ls[k] ls[k][l] _ _ _ HM.out (HRn.out _)).mono (fun _ _ h => ⟨by rw [h.1, HG.out], h.2.symm⟩)))))
              go_wp2
              go_ret
              exact ⟨ret_bool (by unfold listsV; rw [all_false hlt (by unfold listV numsOk; rw [all_false hlt2 HOk.out, Bool.and_false]), Bool.and_false]), below_drewN hb2 _⟩
          | false =>
            have HOk := hide (show numOk ls[k] ls[k][l] = false by unfold numOk; rw [hq, Bool.false_and])
            go_wp2
            go_quiet ((go_at_call 61; exact Calls.quiet_of_same ((l1In _ _ _ _).mono (fun _ _ h => ⟨h.1, h.2.symm⟩))))
            go_wp2
            go_ret
            exact ⟨ret_bool (by unfold listsV; rw [all_false hlt (by unfold listV numsOk; rw [all_false hlt2 HOk.out, Bool.and_false]), Bool.and_false]), below_drewN hb2 _⟩
        · obtain rfl : l = ls[k].length := by omega
          have HN := hide (show numsOk ls[k] = true from hJ.out.all)
          clear hJ
          by_cases h8 : ls[k].length ≤ 8
          · have HV := hide (show listV ls[k] = true by unfold listV; rw [HN.out]; simpa using h8)
            go_wp2
            go_roundw
            case rel => exact ⟨k + 1, by omega, by go_num, hI.out.succ hlt HV.out, hb2⟩
            case measure => simp [intOf]; omega
          · have HV := hide (show listV ls[k] = false by unfold listV; simp [h8])
            go_wp2
            go_ret
            exact ⟨ret_bool (by unfold listsV; rw [all_false hlt HV.out, Bool.and_false]), hb2⟩
    · obtain rfl : k = ls.length := by omega
      have HV := hide (show listsV ls = decide (ls.length ≤ 8) by unfold listsV; rw [hI.out.all, Bool.and_true])
      clear hI
      go_wp2
      go_ret
      exact ⟨ret_bool (by rw [HV.out]; simp; try omega), hb⟩
end Go.Proofs.YtcfllpgppinofaaDoor
