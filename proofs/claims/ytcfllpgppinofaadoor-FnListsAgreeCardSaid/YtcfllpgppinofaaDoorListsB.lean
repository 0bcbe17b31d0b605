/- ListsValid of the program answers as told by listsV. -/
import Derived.Test.YtcfllpgppinofaaDoorLists
namespace Go.Proofs.YtcfllpgppinofaaDoor
open Go.RowKit

theorem Row.take {α : Type} {T : Ty α} {w : World} {S : Nat → Prop} {A : Option Addr} {xs : List α} (h : Row T w S A xs) (k : Nat) : Row T w S A (xs.take k) := fun hp => by
  rw [List.length_take] at hp
  obtain ⟨b, off, rfl, hb, hc⟩ := h (by omega)
  refine ⟨b, off, rfl, hb, fun i hi => ?_⟩
  rw [List.length_take] at hi
  obtain ⟨cs, hr, hcs⟩ := hc i (by omega)
  exact ⟨cs, by simpa using hr, hcs⟩

set_option maxHeartbeats 1000000 in
theorem listOk_any (xs : List Int) (A : Option Addr) (c : Nat) (w : World) (hle : xs.length ≤ c) (hcm : c ≤ maxLen) (hA : Row tInt w (Old w) A xs) :
    Calls Tryd.prog 78 #[.slice A xs.length c] w fun e w' => e = .returned (.bool (listV xs)) ∧ w = w' := by
  unfold maxLen at hcm
  by_cases h8 : xs.length ≤ 8
  · have HA := hide hA
    clear hA
    go_enter Tryd.func78, Tryd.ntmps78
    go_wp2
    go_loop [10] (fun i => ∃ k : Nat, k ≤ xs.length ∧ i = .int .i64 k ∧ Hid (∀ j, j < k → firstOk xs j = true)) (fun i => xs.length - (intOf i).toNat)
    case atStart => exact ⟨0, Nat.zero_le _, rfl, fun j h => absurd h (by omega)⟩
    case round =>
      obtain ⟨k, hk, rfl, hI⟩ := hrel
      by_cases hlt : k < xs.length
      · obtain ⟨b, off, rfl, hbS, c0⟩ := at_Int HA.out (Below.refl _ _) hlt
        have hkc : (k : Int) ≤ (c : Int) := by omega
        have hC := contains_Int (xs.take k) xs[k] (some ⟨b, off, none⟩) c w (by rw [List.length_take]; simp only [maxLen]; omega) (HA.out.take k)
        rw [List.length_take, Nat.min_eq_left hk] at hC
        have HF := hide (firstOk_eq hlt)
        cases hq : inR xs[k] 1 99 with
        | true =>
          cases hq2 : (xs.take k).any (fun y => xs[k] == y) with
          | true =>
            have HV := hide (show listV xs = false by unfold listV; rw [numsOk_not hlt (by rw [HF.out, hq, hq2]; rfl), Bool.and_false])
            rw [hq2] at hC
            have HC := hide hC
            clear hC hq2
            go_wp2_with (first | (go_at_call 53; refine (within _ _ _ _).mono ?_; rintro e w' ⟨rfl, rfl⟩) | (go_at_call 102; refine HC.out.mono ?_; rintro e w' ⟨rfl, rfl⟩))
            go_ret
            exact ⟨ret_bool HV.out.symm, rfl⟩
          | false =>
            have HV := hide (show firstOk xs k = true by rw [HF.out, hq, hq2]; rfl)
            rw [hq2] at hC
            have HC := hide hC
            clear hC hq2
            go_wp2_with (first | (go_at_call 53; refine (within _ _ _ _).mono ?_; rintro e w' ⟨rfl, rfl⟩) | (go_at_call 102; refine HC.out.mono ?_; rintro e w' ⟨rfl, rfl⟩))
            go_round
            case rel => exact ⟨k + 1, by omega, by go_num, (fun j hj => by rcases Nat.lt_succ_iff_lt_or_eq.1 hj with h | rfl; exact hI.out j h; exact HV.out)⟩
            case measure => simp [intOf]; omega
        | false =>
          have HV := hide (show listV xs = false by unfold listV; rw [numsOk_not hlt (by rw [HF.out, hq]; rfl), Bool.and_false])
          clear hC
          go_wp2_with (go_at_call 53; refine (within _ _ _ _).mono ?_; rintro e w' ⟨rfl, rfl⟩)
          go_ret
          exact ⟨ret_bool HV.out.symm, rfl⟩
      · obtain rfl : k = xs.length := by omega
        have HV := hide (show listV xs = true by unfold listV; rw [numsOk_of hI.out]; simpa using h8)
        clear hI
        go_wp2
        go_ret
        exact ⟨ret_bool HV.out.symm, rfl⟩
  · have HV := hide (show listV xs = false by unfold listV; simp [h8])
    clear hA
    go_enter Tryd.func78, Tryd.ntmps78
    go_wp2
    go_ret
    exact ⟨ret_bool HV.out.symm, rfl⟩
theorem listLit (xs : List Int) (A : Option Addr) (c : Nat) (w : World) (hle : xs.length ≤ c) (hcm : c ≤ maxLen) (hA : Row tInt w (Old w) A xs) :
    Calls Tryd.prog 77 #[.slice A xs.length c] w fun e w' => e = .returned (.bool (!listV xs)) ∧ w = w' := by
  have H := hide (listOk_any xs A c w hle hcm hA)
  clear hA
  go_enter Tryd.func77, Tryd.ntmps77
  go_wp2_with (go_at_call 78; refine H.out.mono ?_; rintro e w' ⟨rfl, rfl⟩)
  go_ret
  exact ⟨rfl, rfl⟩
set_option maxHeartbeats 400000 in
theorem implListsValid (ls : List (List Int)) (A : Option Addr) (c : Nat) (w : World) (hl : ls.length ≤ maxLen) (hA : Row (tSlice tInt) w (Old w) A ls) :
    Calls Tryd.prog 37 #[.slice A ls.length c] w fun e w' => e = .returned (.bool (listsV ls)) ∧ Below w.heap.size w w' := by
  by_cases h8 : ls.length ≤ 8
  · have hcont := hide (cont_IntS ls A c w 77 #[] (fun x => !listV x) (enters_of Tryd.func77 (by kernel_rfl) rfl) hl hA
      (fun x _ cs hr W hW => by
        obtain ⟨v, rfl, A2, c2, rfl, h1, h2, h3⟩ := hr
        exact (listLit x A2 c2 W h1 h2 (h3.old hW)).mono (by rintro e w' ⟨rfl, rfl⟩; exact ⟨rfl, hW⟩)))
    have HR := hide (show (!(ls.any fun x => !listV x)) = listsV ls by unfold listsV; rw [List.any_eq_not_all_not]; simp [h8])
    clear hA
    unfold maxLen at hl
    go_enter Tryd.func37, Tryd.ntmps37
    go_wp2_with (go_at_call 76; refine hcont.out.mono ?_; rintro e w' ⟨rfl, hb'⟩)
    go_ret
    exact ⟨ret_bool HR.out, hb'⟩
  · have HR := hide (show listsV ls = false by unfold listsV; simp [h8])
    clear hA
    unfold maxLen at hl
    go_enter Tryd.func37, Tryd.ntmps37
    go_wp2
    go_ret
    exact ⟨ret_bool HR.out.symm, Below.refl _ _⟩
end Go.Proofs.YtcfllpgppinofaaDoor
