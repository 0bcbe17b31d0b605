/- PlanValid of the program and of the reference answer alike. -/
import Derived.Test.YtcfllpgppinofaaDoorRanges
import Derived.Test.YtcfllpgppinofaaDoorElems
import Derived.Test.YtcfllpgppinofaaDoorContB
namespace Go.Proofs.YtcfllpgppinofaaDoor
open Go.RowKit

def stepOk (o : Op) : Bool := inR o.Kind 1 2 && inR o.Key 0 2 && decide (o.Value = 0)
def draftOk (d : Draft) : Bool := inR d.Session 0 3 && inR (d.Steps.length : Int) 1 4 && d.Steps.all stepOk
def planV (xs : List Draft) : Bool := decide (xs.length ≤ 4) && xs.all draftOk

set_option maxRecDepth 10000 in
set_option maxHeartbeats 1000000 in
theorem specPlanValid (xs : List Draft) (A : Option Addr) (c : Nat) (w : World) (hl : xs.length ≤ maxLen) (hA : Row tDraft w (Old w) A xs) :
    Calls Tryd.prog 29 #[.slice A xs.length c] w fun e w' => e = .returned (.bool (planV xs)) ∧ Below w.heap.size w w' := by
  unfold maxLen at hl
  have HA := hide hA
  clear hA
  go_enter Tryd.func29, Tryd.ntmps29
  go_wp2
  go_loopw [3] (fun i wr => ∃ k : Nat, k ≤ xs.length ∧ i = .int .i64 k ∧ Hid (Upto draftOk xs k) ∧ Below w.heap.size w wr) (fun i _ => xs.length - (intOf i).toNat)
  case atStart => exact ⟨0, Nat.zero_le _, rfl, Upto.zero, Below.refl _ _⟩
  case round =>
    obtain ⟨k, hk, rfl, hI, hb⟩ := hrel
    by_cases hlt : k < xs.length
    · obtain ⟨b, off, A2, c2, rfl, hbS, c0, c1, hi1, hi2, hi3⟩ := at_Draft HA.out hb hlt
      have hm : xs[k].Steps.length ≤ 9223372036854775807 := by simp only [maxLen] at hi2; omega
      clear hi2 hi3
      cases hq : inR xs[k].Session 0 3 with
      | false =>
        have HO := hide (show draftOk xs[k] = false by unfold draftOk; rw [hq]; rfl)
        go_wp2_with (go_at_call 61; refine (l1In _ _ _ _).mono ?_; rintro e w' ⟨rfl, rfl⟩)
        go_ret
        exact ⟨ret_bool (by unfold planV; rw [all_false hlt HO.out, Bool.and_false]), hb⟩
      | true =>
        cases hq2 : inR (xs[k].Steps.length : Int) 1 4 with
        | false =>
          have HO := hide (show draftOk xs[k] = false by unfold draftOk; rw [hq2, Bool.and_false]; rfl)
          go_wp2_with (go_at_call 61; refine (l1In _ _ _ _).mono ?_; rintro e w' ⟨rfl, rfl⟩)
          go_ret
          exact ⟨ret_bool (by unfold planV; rw [all_false hlt HO.out, Bool.and_false]), hb⟩
        | true =>
          have HD := hide (show draftOk xs[k] = xs[k].Steps.all stepOk by unfold draftOk; rw [hq, hq2]; rfl)
          go_wp2_with (go_at_call 61; refine (l1In _ _ _ _).mono ?_; rintro e w' ⟨rfl, rfl⟩)
          obtain ⟨wo, rfl⟩ : ∃ wo : World, wo = wr := ⟨_, rfl⟩
          clear c0 c1 hq hq2 hi1
          go_loopw [4] (fun j wr => ∃ l : Nat, l ≤ xs[k].Steps.length ∧ j = .int .i64 l ∧ Hid (Upto stepOk xs[k].Steps l) ∧ Below w.heap.size w wr) (fun j _ => xs[k].Steps.length - (intOf j).toNat)
          case atStart => exact ⟨0, Nat.zero_le _, rfl, Upto.zero, hb⟩
          case round =>
            obtain ⟨l, hll, rfl, hJ, hb2⟩ := hrel
            clear hb
            obtain ⟨b', off', A3, c3, hbe, _, c0, c1, hj1, hj2, hj3⟩ := at_Draft HA.out hb2 hlt
            have hbe' : b = b' ∧ off = off' := by simpa using hbe
            obtain ⟨rfl, rfl⟩ := hbe'
            clear hbe hj2
            have HR := hide hj3
            clear hj3
            by_cases hlt2 : l < xs[k].Steps.length
            · obtain ⟨b2, off2, rfl, hbS2, d0, d1, d2⟩ := at_Op HR.out (Below.refl _ _) hlt2
              cases hs : inR xs[k].Steps[l].Kind 1 2 with
              | false =>
                have HO := hide (show stepOk xs[k].Steps[l] = false by unfold stepOk; rw [hs]; rfl)
                go_wp2_with (go_at_call 61; refine (l1In _ _ _ _).mono ?_; rintro e w' ⟨rfl, rfl⟩)
                go_ret
                exact ⟨ret_bool (by unfold planV; rw [all_false hlt (by rw [HD.out]; exact all_false hlt2 HO.out), Bool.and_false]), hb2.alloc hb2.size _⟩
              | true =>
                cases hs2 : inR xs[k].Steps[l].Key 0 2 with
                | false =>
                  have HO := hide (show stepOk xs[k].Steps[l] = false by unfold stepOk; rw [hs2, Bool.and_false]; rfl)
                  go_wp2_with (go_at_call 61; refine (l1In _ _ _ _).mono ?_; rintro e w' ⟨rfl, rfl⟩)
                  go_ret
                  exact ⟨ret_bool (by unfold planV; rw [all_false hlt (by rw [HD.out]; exact all_false hlt2 HO.out), Bool.and_false]), hb2.alloc hb2.size _⟩
                | true =>
                  by_cases hv : xs[k].Steps[l].Value = 0
                  · have hv0 : (xs[k].Steps[l].Value != 0) = false := by simp [hv]
                    have HO := hide (show stepOk xs[k].Steps[l] = true by unfold stepOk; rw [hs, hs2]; simp [hv])
                    clear hv
                    go_wp2_with (go_at_call 61; refine (l1In _ _ _ _).mono ?_; rintro e w' ⟨rfl, rfl⟩)
                    go_roundw
                    case rel => exact ⟨l + 1, by omega, by go_num, hJ.out.succ hlt2 HO.out, hb2.alloc hb2.size _⟩
                    case measure => simp [intOf]; omega
                  · have hv0 : (xs[k].Steps[l].Value != 0) = true := by simpa using hv
                    have HO := hide (show stepOk xs[k].Steps[l] = false by unfold stepOk; simp [hv])
                    clear hv
                    go_wp2_with (go_at_call 61; refine (l1In _ _ _ _).mono ?_; rintro e w' ⟨rfl, rfl⟩)
                    go_ret
                    exact ⟨ret_bool (by unfold planV; rw [all_false hlt (by rw [HD.out]; exact all_false hlt2 HO.out), Bool.and_false]), hb2.alloc hb2.size _⟩
            · obtain rfl : l = xs[k].Steps.length := by omega
              have HO := hide (show draftOk xs[k] = true by rw [HD.out]; exact hJ.out.all)
              clear hJ
              go_wp2
              go_roundw
              case rel => exact ⟨k + 1, by omega, by go_num, hI.out.succ hlt HO.out, hb2⟩
              case measure => simp [intOf]; omega
    · obtain rfl : k = xs.length := by omega
      have HV := hide (show planV xs = decide (xs.length ≤ 4) by unfold planV; rw [hI.out.all, Bool.and_true])
      clear hI
      go_wp2
      go_ret
      exact ⟨ret_bool (by rw [HV.out]; simp; try omega), hb⟩

set_option maxHeartbeats 400000 in
theorem stepLit (o : Op) (w : World) : Calls Tryd.prog 97 #[.agg #[.int .i64 o.Kind, .int .i64 o.Key, .int .i64 o.Value]] w fun e w' => e = .returned (.bool (!stepOk o)) ∧ Below w.heap.size w w' := by
  have HB := hide (show Below w.heap.size w (w.alloc (.cells #[.int .i64 o.Kind, .int .i64 o.Key, .int .i64 o.Value] 83)) from (Below.refl _ _).alloc (Nat.le_refl _) _)
  cases hs : inR o.Kind 1 2 with
  | false =>
    have HO := hide (show stepOk o = false by unfold stepOk; rw [hs]; rfl)
    go_enter Tryd.func97, Tryd.ntmps97
    go_wp2_with (first | (go_at_call 53; refine (within _ _ _ _).mono ?_; rintro e w' ⟨rfl, rfl⟩) | (go_at_call 98; refine (keyOk _ _).mono ?_; rintro e w' ⟨rfl, rfl⟩))
    go_ret
    exact ⟨ret_bool (by rw [HO.out]; rfl), HB.out⟩
  | true =>
    cases hs2 : inR o.Key 0 2 with
    | false =>
      have HO := hide (show stepOk o = false by unfold stepOk; rw [hs2, Bool.and_false]; rfl)
      go_enter Tryd.func97, Tryd.ntmps97
      go_wp2_with (first | (go_at_call 53; refine (within _ _ _ _).mono ?_; rintro e w' ⟨rfl, rfl⟩) | (go_at_call 98; refine (keyOk _ _).mono ?_; rintro e w' ⟨rfl, rfl⟩))
      go_ret
      exact ⟨ret_bool (by rw [HO.out]; rfl), HB.out⟩
    | true =>
      have HO := hide (show stepOk o = decide (o.Value = 0) by unfold stepOk; rw [hs, hs2]; rfl)
      go_enter Tryd.func97, Tryd.ntmps97
      go_wp2_with (first | (go_at_call 53; refine (within _ _ _ _).mono ?_; rintro e w' ⟨rfl, rfl⟩) | (go_at_call 98; refine (keyOk _ _).mono ?_; rintro e w' ⟨rfl, rfl⟩))
      go_ret
      refine ⟨ret_bool ?_, HB.out⟩
      rw [HO.out]
      by_cases h : o.Value = 0 <;> simp [h]
set_option maxHeartbeats 400000 in
theorem draftValid (d : Draft) (A : Option Addr) (c : Nat) (w : World) (hm : d.Steps.length ≤ maxLen) (hA : Row tOp w (Old w) A d.Steps) :
    Calls Tryd.prog 70 #[.agg #[.int .i64 d.Session, .slice A d.Steps.length c]] w fun e w' => e = .returned (.bool (draftOk d)) ∧ Below w.heap.size w w' := by
  have hB : Below w.heap.size w (w.alloc (.cells #[.int .i64 d.Session, .slice A d.Steps.length c] 49)) := (Below.refl _ _).alloc (Nat.le_refl _) _
  have HB := hide hB
  have hcont := hide (cont_Op d.Steps A c _ 97 #[] (fun o => !stepOk o) (enters_of Tryd.func97 (by kernel_rfl) rfl) hm (hA.old hB)
    (fun x _ cs hr W hW => by
      obtain rfl := hr
      exact (stepLit x W).mono (by rintro e w' ⟨rfl, hb⟩; exact ⟨rfl, hW.trans (hb.mono hW.size)⟩)))
  have hm' : d.Steps.length ≤ 9223372036854775807 := by simpa [maxLen] using hm
  clear hA hB hm
  cases hq : inR d.Session 0 3 with
  | false =>
    have HO := hide (show draftOk d = false by unfold draftOk; rw [hq]; rfl)
    go_enter Tryd.func70, Tryd.ntmps70
    go_wp2_with (first | (go_at_call 53; refine (within _ _ _ _).mono ?_; rintro e w' ⟨rfl, rfl⟩) | (go_at_call 95; refine (sessionOk _ _).mono ?_; rintro e w' ⟨rfl, rfl⟩))
    go_ret
    exact ⟨ret_bool HO.out.symm, HB.out⟩
  | true =>
    cases hq2 : inR (d.Steps.length : Int) 1 4 with
    | false =>
      have HO := hide (show draftOk d = false by unfold draftOk; rw [hq2, Bool.and_false]; rfl)
      go_enter Tryd.func70, Tryd.ntmps70
      go_wp2_with (first | (go_at_call 53; refine (within _ _ _ _).mono ?_; rintro e w' ⟨rfl, rfl⟩) | (go_at_call 95; refine (sessionOk _ _).mono ?_; rintro e w' ⟨rfl, rfl⟩))
      go_ret
      exact ⟨ret_bool HO.out.symm, HB.out⟩
    | true =>
      have HO := hide (show (!(d.Steps.any fun o => !stepOk o)) = draftOk d by unfold draftOk; rw [hq, hq2, List.any_eq_not_all_not]; simp)
      go_enter Tryd.func70, Tryd.ntmps70
      go_wp2_with (first | (go_at_call 53; refine (within _ _ _ _).mono ?_; rintro e w' ⟨rfl, rfl⟩) | (go_at_call 95; refine (sessionOk _ _).mono ?_; rintro e w' ⟨rfl, rfl⟩) | (go_at_call 96; refine hcont.out.mono ?_; rintro e w' ⟨rfl, hb'⟩; have HB' := hide hb'; clear hb'))
      go_ret
      exact ⟨ret_bool HO.out, HB.out.trans (HB'.out.mono (by simp))⟩
theorem draftLit (d : Draft) (A : Option Addr) (c : Nat) (w : World) (hm : d.Steps.length ≤ maxLen) (hA : Row tOp w (Old w) A d.Steps) :
    Calls Tryd.prog 69 #[.agg #[.int .i64 d.Session, .slice A d.Steps.length c]] w fun e w' => e = .returned (.bool (!draftOk d)) ∧ Below w.heap.size w w' := by
  have hB : Below w.heap.size w (w.alloc (.cells #[.int .i64 d.Session, .slice A d.Steps.length c] 49)) := (Below.refl _ _).alloc (Nat.le_refl _) _
  have H := hide (draftValid d A c _ hm (hA.old hB))
  clear hA hB
  go_enter Tryd.func69, Tryd.ntmps69
  go_wp2_with (go_at_call 70; refine H.out.mono ?_; rintro e w' ⟨rfl, hb'⟩; have HB := hide hb'; clear hb')
  go_ret
  exact ⟨rfl, ((Below.refl _ w).alloc (Nat.le_refl _) _).trans (HB.out.mono (by simp))⟩
set_option maxHeartbeats 400000 in
theorem implPlanValid (xs : List Draft) (A : Option Addr) (c : Nat) (w : World) (hl : xs.length ≤ maxLen) (hA : Row tDraft w (Old w) A xs) :
    Calls Tryd.prog 28 #[.slice A xs.length c] w fun e w' => e = .returned (.bool (planV xs)) ∧ Below w.heap.size w w' := by
  by_cases h4 : xs.length ≤ 4
  · have hcont := hide (cont_Draft xs A c w 69 #[] (fun x => !draftOk x) (enters_of Tryd.func69 (by kernel_rfl) rfl) hl hA
      (fun x _ cs hr W hW => by
        obtain ⟨v, rfl, A2, c2, rfl, h1, h2, h3⟩ := hr
        exact (draftLit x A2 c2 W (Nat.le_trans h1 h2) (h3.old hW)).mono (by rintro e w' ⟨rfl, hb⟩; exact ⟨rfl, hW.trans (hb.mono hW.size)⟩)))
    have HR := hide (show (!(xs.any fun x => !draftOk x)) = planV xs by unfold planV; rw [List.any_eq_not_all_not]; simp [h4])
    clear hA
    unfold maxLen at hl
    go_enter Tryd.func28, Tryd.ntmps28
    go_wp2_with (go_at_call 68; refine hcont.out.mono ?_; rintro e w' ⟨rfl, hb'⟩)
    go_ret
    exact ⟨ret_bool HR.out, hb'⟩
  · have HR := hide (show planV xs = false by unfold planV; simp [h4])
    clear hA
    unfold maxLen at hl
    go_enter Tryd.func28, Tryd.ntmps28
    go_wp2
    go_ret
    exact ⟨ret_bool HR.out.symm, Below.refl _ _⟩
end Go.Proofs.YtcfllpgppinofaaDoor
