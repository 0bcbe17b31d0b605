/- SpansValid of the program and of the reference answer alike. -/
import Derived.Test.YtaaagoppecnmmaaDoorRanges
import Derived.Test.YtaaagoppecnmmaaDoorElems
import Derived.Test.YtaaagoppecnmmaaDoorContA
namespace Go.Proofs.YtaaagoppecnmmaaDoor
open Go.RowKit

def spanOk (s : Span) : Bool := inR s.From 0 1000 && inR s.To s.From 1000
def spansV (many : Int) (xs : List Span) : Bool := inR many 0 6 && decide ((xs.length : Int) = many) && xs.all spanOk

set_option maxRecDepth 10000 in
set_option maxHeartbeats 800000 in
theorem specSpansValid (many : Int) (xs : List Span) (A : Option Addr) (c : Nat) (w : World) (hl : xs.length ≤ maxLen) (hA : Row tSpan w (Old w) A xs) :
    Calls Tryd.prog 67 #[.int .i64 many, .slice A xs.length c] w fun e w' => e = .returned (.bool (spansV many xs)) ∧ Below w.heap.size w w' := by
  unfold maxLen at hl
  go_enter Tryd.func67, Tryd.ntmps67
  go_wp2
  go_loopw [5] (fun i wr => ∃ k : Nat, k ≤ xs.length ∧ i = .int .i64 k ∧ Hid (Upto spanOk xs k) ∧ Below w.heap.size w wr) (fun i _ => xs.length - (intOf i).toNat)
  case atStart => exact ⟨0, Nat.zero_le _, rfl, Upto.zero, Below.refl _ _⟩
  case round =>
    obtain ⟨k, hk, rfl, hI, hb⟩ := hrel
    by_cases hlt : k < xs.length
    · obtain ⟨b, off, rfl, hbS, c0, c1⟩ := at_Span hA hb hlt
      clear hA
      have e1 : IntKind.i64.wrap ((k : Int) + 1) = (k : Int) + 1 := by rw [IntKind.wrap_i64]; omega
      have E1 := hide e1; clear e1
      cases hq : inR xs[k].From 0 1000 with
      | true =>
        cases hq2 : inR xs[k].To xs[k].From 1000 with
        | true =>
          have HO := hide (show spanOk xs[k] = true by unfold spanOk; rw [hq, hq2]; rfl)
          go_wp2
          go_quiet ((go_at_call 53; exact Calls.quiet_of_same ((l1In _ _ _ _).mono (fun _ _ h => ⟨h.1, h.2.symm⟩))))
          go_wp2
          go_roundw
          case rel => exact ⟨k + 1, by omega, by go_num, hI.out.succ hlt HO.out, below_drewN hb _⟩
          case measure => simp [intOf]; omega
        | false =>
          have HO := hide (show spanOk xs[k] = false by unfold spanOk; rw [hq2, Bool.and_false])
          go_wp2
          go_quiet ((go_at_call 53; exact Calls.quiet_of_same ((l1In _ _ _ _).mono (fun _ _ h => ⟨h.1, h.2.symm⟩))))
          go_wp2
          go_ret
          exact ⟨ret_bool (by unfold spansV; rw [all_false hlt HO.out, Bool.and_false]), below_drewN hb _⟩
      | false =>
        have HO := hide (show spanOk xs[k] = false by unfold spanOk; rw [hq, Bool.false_and])
        go_wp2
        go_quiet ((go_at_call 53; exact Calls.quiet_of_same ((l1In _ _ _ _).mono (fun _ _ h => ⟨h.1, h.2.symm⟩))))
        go_wp2
        go_ret
        exact ⟨ret_bool (by unfold spansV; rw [all_false hlt HO.out, Bool.and_false]), below_drewN hb _⟩
    · obtain rfl : k = xs.length := by omega
      have HI := hide hI.out.all
      clear hA hI
      cases hm : inR many 0 6 with
      | true =>
        by_cases he : (xs.length : Int) = many
        · have he2 : ((xs.length : Int) == many) = true := by simpa using he
          have HE := hide he; clear he
          go_wp2_with (go_at_call 53; refine (l1In _ _ _ _).mono ?_; rintro e w' ⟨rfl, rfl⟩)
          go_ret
          exact ⟨ret_bool (by unfold spansV; rw [HI.out, hm]; simp [HE.out]), hb⟩
        · have he2 : ((xs.length : Int) == many) = false := by simpa using he
          have HE := hide he; clear he
          go_wp2_with (go_at_call 53; refine (l1In _ _ _ _).mono ?_; rintro e w' ⟨rfl, rfl⟩)
          go_ret
          exact ⟨ret_bool (by unfold spansV; simp [HE.out]), hb⟩
      | false =>
        go_wp2_with (go_at_call 53; refine (l1In _ _ _ _).mono ?_; rintro e w' ⟨rfl, rfl⟩)
        go_ret
        exact ⟨ret_bool (by unfold spansV; rw [hm]; rfl), hb⟩

set_option maxHeartbeats 400000 in
theorem spanValid (s : Span) (w : World) : Calls Tryd.prog 131 #[.agg #[.int .i64 s.From, .int .i64 s.To]] w fun e w' => e = .returned (.bool (spanOk s)) ∧ Below w.heap.size w w' := by
  cases hq : inR s.From 0 1000 with
  | true =>
    have HO := hide (show spanOk s = inR s.To s.From 1000 by unfold spanOk; rw [hq]; rfl)
    go_enter Tryd.func131, Tryd.ntmps131
    go_wp2_with (first | (go_at_call 157; refine (timeOk _ _).mono ?_; rintro e w' ⟨rfl, rfl⟩) | (go_at_call 49; refine (within _ _ _ _).mono ?_; rintro e w' ⟨rfl, rfl⟩))
    go_ret
    exact ⟨ret_bool HO.out.symm, (Below.refl _ _).alloc (Nat.le_refl _) _⟩
  | false =>
    have HO := hide (show spanOk s = false by unfold spanOk; rw [hq]; rfl)
    go_enter Tryd.func131, Tryd.ntmps131
    go_wp2_with (first | (go_at_call 157; refine (timeOk _ _).mono ?_; rintro e w' ⟨rfl, rfl⟩) | (go_at_call 49; refine (within _ _ _ _).mono ?_; rintro e w' ⟨rfl, rfl⟩))
    go_ret
    exact ⟨ret_bool HO.out.symm, (Below.refl _ _).alloc (Nat.le_refl _) _⟩
theorem spanLit (s : Span) (w : World) : Calls Tryd.prog 130 #[.agg #[.int .i64 s.From, .int .i64 s.To]] w fun e w' => e = .returned (.bool (!spanOk s)) ∧ Below w.heap.size w w' := by
  go_enter Tryd.func130, Tryd.ntmps130
  go_wp2_with (go_at_call 131; refine (spanValid s _).mono ?_; rintro e w' ⟨rfl, hb'⟩; have HB := hide hb'; clear hb')
  go_ret
  exact ⟨rfl, ((Below.refl _ w).alloc (Nat.le_refl _) _).trans (HB.out.mono (by simp))⟩
set_option maxHeartbeats 400000 in
theorem implSpansValid (many : Int) (xs : List Span) (A : Option Addr) (c : Nat) (w : World) (hl : xs.length ≤ maxLen) (hA : Row tSpan w (Old w) A xs) :
    Calls Tryd.prog 64 #[.int .i64 many, .slice A xs.length c] w fun e w' => e = .returned (.bool (spansV many xs)) ∧ Below w.heap.size w w' := by
  cases hm : inR many 0 6 with
  | true =>
    by_cases he : (xs.length : Int) = many
    · have hcont := hide (cont_Span xs A c w 130 #[] (fun s => !spanOk s) (enters_of Tryd.func130 (by kernel_rfl) rfl) hl hA
        (fun x _ cs hr W hW => by
          obtain rfl := hr
          exact (spanLit x W).mono (by rintro e w' ⟨rfl, hb⟩; exact ⟨rfl, hW.trans (hb.mono hW.size)⟩)))
      have HR := hide (show (!(xs.any fun s => !spanOk s)) = spansV many xs by unfold spansV; rw [hm, List.any_eq_not_all_not]; simp [he])
      have he2 : ((xs.length : Int) == many) = true := by simpa using he
      clear hA he
      unfold maxLen at hl
      go_enter Tryd.func64, Tryd.ntmps64
      go_wp2_with (first | (go_at_call 49; refine (within _ _ _ _).mono ?_; rintro e w' ⟨rfl, rfl⟩) | (go_at_call 129; refine hcont.out.mono ?_; rintro e w' ⟨rfl, hb'⟩))
      go_ret
      exact ⟨ret_bool HR.out, hb'⟩
    · have HR := hide (show spansV many xs = false by unfold spansV; simp [he])
      have he2 : ((xs.length : Int) == many) = false := by simpa using he
      clear hA he
      unfold maxLen at hl
      go_enter Tryd.func64, Tryd.ntmps64
      go_wp2_with (go_at_call 49; refine (within _ _ _ _).mono ?_; rintro e w' ⟨rfl, rfl⟩)
      go_ret
      exact ⟨ret_bool HR.out.symm, Below.refl _ _⟩
  | false =>
    have HR := hide (show spansV many xs = false by unfold spansV; rw [hm]; rfl)
    clear hA
    go_enter Tryd.func64, Tryd.ntmps64
    go_wp2_with (go_at_call 49; refine (within _ _ _ _).mono ?_; rintro e w' ⟨rfl, rfl⟩)
    go_ret
    exact ⟨ret_bool HR.out.symm, Below.refl _ _⟩
end Go.Proofs.YtaaagoppecnmmaaDoor
