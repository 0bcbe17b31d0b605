/- ScheduleValid of the program and of the reference answer alike. -/
import Derived.Test.YtcfllpgppinofaaDoorRanges
import Derived.Test.YtcfllpgppinofaaDoorElems
import Derived.Test.YtcfllpgppinofaaDoorContA
namespace Go.Proofs.YtcfllpgppinofaaDoor
open Go.RowKit

def schedV (many : Int) (xs : List Int) : Bool := inR many 0 4 && decide (xs.length ≤ 40) && xs.all (fun n => inR n 0 (many - 1))

set_option maxHeartbeats 400000 in
theorem specScheduleValid (many : Int) (xs : List Int) (A : Option Addr) (c : Nat) (w : World) (hl : xs.length ≤ maxLen) (hA : Row tInt w (Old w) A xs) :
    Calls Tryd.prog 22 #[.int .i64 many, .slice A xs.length c] w fun e w' => e = .returned (.bool (schedV many xs)) ∧ w = w' := by
  unfold maxLen at hl
  by_cases hm : inR many 0 4 = true
  · have hm1 := inR_iff.1 hm
    obtain ⟨hm1, hm2⟩ := hm1
    go_enter Tryd.func22, Tryd.ntmps22
    go_wp2
    go_loop [5] (fun i => ∃ k : Nat, k ≤ xs.length ∧ i = .int .i64 k ∧ Hid (Upto (fun n => inR n 0 (many - 1)) xs k)) (fun i => xs.length - (intOf i).toNat)
    case atStart => exact ⟨0, Nat.zero_le _, rfl, Upto.zero⟩
    case round =>
      obtain ⟨k, hk, rfl, hI⟩ := hrel
      by_cases hlt : k < xs.length
      · obtain ⟨b, off, rfl, hbS, c0⟩ := at_Int hA (Below.refl _ _) hlt
        clear hA
        cases hq : inR xs[k] 0 (many - 1) with
        | true =>
          go_wp2_with (go_at_call 61; refine (l1In _ _ _ _).mono ?_; rintro e w' ⟨rfl, rfl⟩)
          go_round
          case rel => exact ⟨k + 1, by omega, by go_num, hI.out.succ hlt hq⟩
          case measure => simp [intOf]; omega
        | false =>
          go_wp2_with (go_at_call 61; refine (l1In _ _ _ _).mono ?_; rintro e w' ⟨rfl, rfl⟩)
          go_ret
          exact ⟨ret_bool (by unfold schedV; rw [all_false hlt hq, Bool.and_false]), rfl⟩
      · obtain rfl : k = xs.length := by omega
        have HA := hide (hI.out.all)
        clear hA hI
        go_wp2_with (go_at_call 61; refine (l1In _ _ _ _).mono ?_; rintro e w' ⟨rfl, rfl⟩)
        go_ret
        exact ⟨ret_bool (by unfold schedV; rw [HA.out, hm]; simp; try omega), rfl⟩
  · have hm' : inR many 0 4 = false := by simpa using hm
    have H := hide (show schedV many xs = false by unfold schedV; rw [hm']; rfl)
    clear hm
    go_enter Tryd.func22, Tryd.ntmps22
    go_wp2
    go_loop [5] (fun i => ∃ k : Nat, k ≤ xs.length ∧ i = .int .i64 k) (fun i => xs.length - (intOf i).toNat)
    case atStart => exact ⟨0, Nat.zero_le _, rfl⟩
    case round =>
      obtain ⟨k, hk, rfl⟩ := hrel
      by_cases hlt : k < xs.length
      · obtain ⟨b, off, rfl, hbS, c0⟩ := at_Int hA (Below.refl _ _) hlt
        clear hA
        go_wp2_with (go_at_call 61; refine (l1In _ _ _ _).mono ?_; rintro e w' ⟨rfl, rfl⟩)
        · go_ret
          exact ⟨ret_bool H.out.symm, rfl⟩
        · go_round
          case rel => exact ⟨k + 1, by omega, by go_num⟩
          case measure => simp [intOf]; omega
      · clear hA
        go_wp2_with (go_at_call 61; refine (l1In _ _ _ _).mono ?_; rintro e w' ⟨rfl, rfl⟩)
        go_ret
        exact ⟨ret_bool H.out.symm, rfl⟩

theorem schedLit (n many : Int) (B : Nat) (w : World) (h1 : 0 ≤ many) (h2 : many ≤ 4) (hc : w.cell? ⟨B, 0, none⟩ = some (.int .i64 many)) :
    Calls Tryd.prog 60 #[.int .i64 n, .pointer (some ⟨B, 0, none⟩)] w fun e w' => e = .returned (.bool (!inR n 0 (many - 1))) ∧ w = w' := by
  go_enter Tryd.func60, Tryd.ntmps60
  go_wp2_with (go_at_call 53; refine (within _ _ _ _).mono ?_; rintro e w' ⟨rfl, rfl⟩)
  go_ret
  exact ⟨rfl, rfl⟩

set_option maxHeartbeats 400000 in
theorem implScheduleValid (many : Int) (xs : List Int) (A : Option Addr) (c : Nat) (w : World) (hl : xs.length ≤ maxLen) (hA : Row tInt w (Old w) A xs) :
    Calls Tryd.prog 21 #[.int .i64 many, .slice A xs.length c] w fun e w' => e = .returned (.bool (schedV many xs)) ∧ Below w.heap.size w w' := by
  have hb0 : Below w.heap.size w (w.alloc (.cells #[.int .i64 many] 3)) := (Below.refl _ _).alloc (Nat.le_refl _) _
  have HB0 := hide hb0
  by_cases hm : inR many 0 4 = true
  · have hm1 := inR_iff.1 hm
    obtain ⟨hm1, hm2⟩ := hm1
    by_cases h40 : xs.length ≤ 40
    · have hc0 : (w.alloc (.cells #[.int .i64 many] 3)).cell? ⟨w.heap.size, 0, none⟩ = some (.int .i64 many) := by simp
      have hcont := hide (cont_Int xs A c (w.alloc (.cells #[.int .i64 many] 3)) 60 #[.pointer (some ⟨w.heap.size, 0, none⟩)] (fun n => !inR n 0 (many - 1)) (enters_of Tryd.func60 (by kernel_rfl) rfl) hl (hA.old hb0)
        (fun x _ cs hr W hW => by
          obtain rfl := hr
          exact (schedLit x many w.heap.size W hm1 hm2 ((hW.cell (p := ⟨w.heap.size, 0, none⟩) (by simp)).trans hc0)).mono (by rintro e w' ⟨rfl, rfl⟩; exact ⟨rfl, hW⟩)))
      have HR := hide (show (!(xs.any fun n => !inR n 0 (many - 1))) = schedV many xs by unfold schedV; rw [hm, List.any_eq_not_all_not]; simp [h40])
      clear hA hb0 hc0
      go_enter Tryd.func21, Tryd.ntmps21
      go_wp2_with (first | (go_at_call 53; refine (within _ _ _ _).mono ?_; rintro e w' ⟨rfl, rfl⟩) | (go_at_call 59; refine hcont.out.mono ?_; rintro e w' ⟨rfl, hb'⟩))
      go_ret
      exact ⟨ret_bool HR.out, HB0.out.trans (hb'.mono (by simp))⟩
    · have HR := hide (show schedV many xs = false by unfold schedV; simp [h40])
      clear hA hb0
      go_enter Tryd.func21, Tryd.ntmps21
      go_wp2_with (go_at_call 53; refine (within _ _ _ _).mono ?_; rintro e w' ⟨rfl, rfl⟩)
      go_ret
      exact ⟨ret_bool HR.out.symm, HB0.out⟩
  · have hm' : inR many 0 4 = false := by simpa using hm
    have HR := hide (show schedV many xs = false by unfold schedV; rw [hm']; rfl)
    clear hm hA hb0
    go_enter Tryd.func21, Tryd.ntmps21
    go_wp2_with (go_at_call 53; refine (within _ _ _ _).mono ?_; rintro e w' ⟨rfl, rfl⟩)
    go_ret
    exact ⟨ret_bool HR.out.symm, HB0.out⟩
end Go.Proofs.YtcfllpgppinofaaDoor
