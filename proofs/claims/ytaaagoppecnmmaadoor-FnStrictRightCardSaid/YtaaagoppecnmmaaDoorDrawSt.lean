/- DrawStrictRight: some history, some spans, and some order. -/
import Derived.Test.YtaaagoppecnmmaaDoorDrOrd
import Derived.Test.YtaaagoppecnmmaaDoorSpansD
namespace Go.Proofs.YtaaagoppecnmmaaDoor
open Go.RowKit
set_option linter.unusedVariables false
set_option linter.unusedSimpArgs false

def DrawnHSI (w : World) (e : Ending) (w' : World) : Prop := ∃ (xs : List Txn) (sp : List Span) (o : List Int) (v u t : Value), e = .returned (.tuple #[v, u, t]) ∧ HistS xs ∧ sp.length ≤ 10 ∧ o.length ≤ 101 ∧ Sl tTxn w' (Old w') xs v ∧ Sl tSpan w' (Old w') sp u ∧ Sl tInt w' (Old w') o t ∧ Below w.heap.size w w'
set_option maxRecDepth 10000 in
set_option maxHeartbeats 2000000 in
theorem drawStrictRight (bs : List Int) (A : Option Addr) (c : Nat) (w : World) (hl : bs.length ≤ 1048576) (hc : bs.length ≤ c) (hcm : c ≤ maxLen) (hA : Row tByte w (Old w) A bs) :
    Calls Tryd.prog 34 #[.slice A bs.length c] w (DrawnHSI w) := by
  have HC := hide (open_any bs A c w hl hc hcm hA)
  clear hA
  go_enter Tryd.func34, Tryd.ntmps34
  go_wp2_with fail
  refine HC.out.mono ?_
  rintro e w1 ⟨R, rfl, hR0, hr1, hb1⟩
  have HB1 := hide hb1
  have HR1 := hide hr1
  have HRw := hide hR0
  have HRl := hide hr1.lt
  clear hb1 hr1 hR0 HC
  go_wp2_with fail
  refine (history_any _ R 0 5 14 HR1.out (by omega) (by omega) (by omega) (by omega)).mono ?_
  rintro e w4 ⟨xs, v, rfl, hx, ho, hS, hr4, hg4⟩
  have HX := hide (show HistS xs from ⟨hx, ho⟩)
  have HS4 := hide hS
  have HR4 := hide hr4
  have HG4 := hide hg4
  clear hx ho hS hr4 hg4 HR1
  obtain ⟨A4, c4, rfl, h41, h42, hr4⟩ := HS4.out
  have HC := hide (spans_any w4 R _ xs.length 40 HR4.out (by omega) (by have := HX.out.1; omega) (by decide))
  have HT4 := hide hr4
  clear hr4 HS4 HR4
  go_wp2_with fail
  refine HC.out.mono ?_
  rintro e w5 ⟨sp, u, rfl, hsl, hS5, hr5, hg5⟩
  have HT5 := hide (Sl.grNew (v := .slice A4 xs.length c4) ⟨A4, c4, rfl, h41, h42, HT4.out⟩ hg5 HRl.out)
  have HO5 := hide (show Sl tSpan w5 (New w4 w5) sp u from hS5.sl.mono (fun b hb => hb) (fun _ _ => rfl))
  have HC2 := hide (order_any w5 R _ xs A4 c4 hr5 (by omega) HX.out (by
    obtain ⟨A', c', hv', _, _, hr'⟩ := HT5.out
    injection hv' with hv1 _ _
    subst hv1
    exact hr'.mono (fun b hb => ⟨Nat.lt_of_lt_of_le HRl.out hb.1, hb.2⟩) (fun _ _ => rfl)))
  have HG5 := hide (gr_trans HG4.out hg5)
  have HR4l := hide (Nat.lt_of_lt_of_le HRl.out HG4.out.size)
  clear hS5 hr5 hg5 HT4 HC HG4
  go_wp2_with fail
  refine HC2.out.mono ?_
  rintro e w6 ⟨o, t, rfl, hol, hS6, hr6, hg6⟩
  go_wp2_with fail
  go_ret3
  exact ⟨xs, sp, o, _, u, t, rfl, HX.out, hsl, hol, (HT5.out.grNew hg6 HRl.out).newOld, (HO5.out.grNew hg6 HR4l.out).newOld, hS6.newOld, below_gr HB1.out (gr_trans HG5.out hg6) HB1.out.size HRw.out⟩
end Go.Proofs.YtaaagoppecnmmaaDoor
