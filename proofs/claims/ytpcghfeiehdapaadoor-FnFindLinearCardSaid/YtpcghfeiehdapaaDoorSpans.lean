/- SpansValid of the program and of the reference answer alike. -/
import Derived.Test.YtpcghfeiehdapaaDoorRanges
import Derived.Test.YtpcghfeiehdapaaDoorElems
import Derived.Test.YtpcghfeiehdapaaDoorContA
namespace Go.Proofs.YtpcghfeiehdapaaDoor
open Go.RowKit

def spanOk (s : Span) : Bool := inR s.From 0 1000 && inR s.To s.From 1000
def spansV (many : Int) (xs : List Span) : Bool := inR many 0 6 && decide ((xs.length : Int) = many) && xs.all spanOk

set_option maxRecDepth 10000 in
set_option maxHeartbeats 800000 in
theorem specSpansValid (many : Int) (xs : List Span) (A : Option Addr) (c : Nat) (w : World) (hl : xs.length ≤ maxLen) (hA : Row tSpan w (Old w) A xs) :
    Calls Tryd.prog 35 #[.int .i64 many, .slice A xs.length c] w fun e w' => e = .returned (.bool (spansV many xs)) ∧ Below w.heap.size w w' := by
  unfold maxLen at hl
  go_enter Tryd.func35, Tryd.ntmps35
  go_wp2
  go_loopw [5] (fun i wr => ∃ k : Nat, k ≤ xs.length ∧ i = .int .i64 k ∧ Hid (Upto spanOk xs k) ∧ Below w.heap.size w wr) (fun i _ => xs.length - (intOf i).toNat)
  case atStart => exact ⟨0, Nat.zero_le _, rfl, Upto.zero, Below.refl _ _⟩
  case round =>
    obtain ⟨k, hk, rfl, hI, hb⟩ := hrel
    by_cases hlt : k < xs.length
    · obtain ⟨b, off, rfl, hbS, c0, c1⟩ := at_Span hA hb hlt
      clear hA
      have e1 : IntKind.i64.wrap ((k : Int) + 1) = (k : Int) + 1 := by rw [IntKind.wrap_i64]; omega
      have E1 := hide e1; clear e1
      cases hq : inR xs[k].From 0 1000 with
      | true =>
        cases hq2 : inR xs[k].To xs[k].From 1000 with
        | true =>
          have HO := hide (show spanOk xs[k] = true by unfold spanOk; rw [hq, hq2]; rfl)
          go_wp2
          go_quiet ((go_at_call 34; exact Calls.quiet_of_same ((l1In _ _ _ _).mono (fun _ _ h => ⟨h.1, h.2.symm⟩))))
          go_wp2
          go_roundw
          case rel => exact ⟨k + 1, by omega, by go_num, hI.out.succ hlt HO.out, below_drewN hb _⟩
          case measure => simp [intOf]; omega
        | false =>
          have HO := hide (show spanOk xs[k] = false by unfold spanOk; rw [hq2, Bool.and_false])
          go_wp2
          go_quiet ((go_at_call 34; exact Calls.quiet_of_same ((l1In _ _ _ _).mono (fun _ _ h => ⟨h.1, h.2.symm⟩))))
          go_wp2
          go_ret
          exact ⟨ret_bool (by unfold spansV; rw [all_false hlt HO.out, Bool.and_false]), below_drewN hb _⟩
      | false =>
        have HO := hide (show spanOk xs[k] = false by unfold spanOk; rw [hq, Bool.false_and])
        go_wp2
        go_quiet ((go_at_call 34; exact Calls.quiet_of_same ((l1In _ _ _ _).mono (fun _ _ h => ⟨h.1, h.2.symm⟩))))
        go_wp2
        go_ret
        exact ⟨ret_bool (by unfold spansV; rw [all_false hlt HO.out, Bool.and_false]), below_drewN hb _⟩
    · obtain rfl : k = xs.length := by omega
      have HI := hide hI.out.all
      clear hA hI
      cases hm : inR many 0 6 with
      | true =>
        by_cases he : (xs.length : Int) = many
        · have he2 : ((xs.length : Int) == many) = true := by simpa using he
          have HE := hide he; clear he
          go_wp2_with (go_at_call 34; refine (l1In _ _ _ _).mono ?_; rintro e w' ⟨rfl, rfl⟩)
          go_ret
          exact ⟨ret_bool (by unfold spansV; rw [HI.out, hm]; simp [HE.out]), hb⟩
        · have he2 : ((xs.length : Int) == many) = false := by simpa using he
          have HE := hide he; clear he
          go_wp2_with (go_at_call 34; refine (l1In _ _ _ _).mono ?_; rintro e w' ⟨rfl, rfl⟩)
          go_ret
          exact ⟨ret_bool (by unfold spansV; simp [HE.out]), hb⟩
      | false =>
        go_wp2_with (go_at_call 34; refine (l1In _ _ _ _).mono ?_; rintro e w' ⟨rfl, rfl⟩)
        go_ret
        exact ⟨ret_bool (by unfold spansV; rw [hm]; rfl), hb⟩

set_option maxHeartbeats 400000 in
theorem spanValid (s : Span) (w : World) : Calls Tryd.prog 41 #[.agg #[.int .i64 s.From, .int .i64 s.To]] w fun e w' => e = .returned (.bool (spanOk s)) ∧ Below w.heap.size w w' := by
  cases hq : inR s.From 0 1000 with
  | true =>
    have HO := hide (show spanOk s = inR s.To s.From 1000 by unfold spanOk; rw [hq]; rfl)
    go_enter Tryd.func41, Tryd.ntmps41
    go_wp2_with (first | (go_at_call 48; refine (timeOk _ _).mono ?_; rintro e w' ⟨rfl, rfl⟩) | (go_at_call 19; refine (within _ _ _ _).mono ?_; rintro e w' ⟨rfl, rfl⟩))
    go_ret
    exact ⟨ret_bool HO.out.symm, (Below.refl _ _).alloc (Nat.le_refl _) _⟩
  | false =>
    have HO := hide (show spanOk s = false by unfold spanOk; rw [hq]; rfl)
    go_enter Tryd.func41, Tryd.ntmps41
    go_wp2_with (first | (go_at_call 48; refine (timeOk _ _).mono ?_; rintro e w' ⟨rfl, rfl⟩) | (go_at_call 19; refine (within _ _ _ _).mono ?_; rintro e w' ⟨rfl, rfl⟩))
    go_ret
    exact ⟨ret_bool HO.out.symm, (Below.refl _ _).alloc (Nat.le_refl _) _⟩
end Go.Proofs.YtpcghfeiehdapaaDoor
