/- DrawFindStrict: some history, and some spans. -/
import Derived.Test.YtaaagoppecnmmaaDoorHKit
import Derived.Test.YtaaagoppecnmmaaDoorSpansD
namespace Go.Proofs.YtaaagoppecnmmaaDoor
open Go.RowKit
set_option linter.unusedVariables false
set_option linter.unusedSimpArgs false

def DrawnHS (w : World) (e : Ending) (w' : World) : Prop := ∃ (xs : List Txn) (sp : List Span) (v u : Value), e = .returned (.tuple #[v, u]) ∧ HistS xs ∧ sp.length ≤ 10 ∧ Sl tTxn w' (Old w') xs v ∧ Sl tSpan w' (Old w') sp u ∧ Below w.heap.size w w'
set_option maxRecDepth 10000 in
set_option maxHeartbeats 2000000 in
theorem drawFindStrict (bs : List Int) (A : Option Addr) (c : Nat) (w : World) (hl : bs.length ≤ 1048576) (hc : bs.length ≤ c) (hcm : c ≤ maxLen) (hA : Row tByte w (Old w) A bs) :
    Calls Tryd.prog 19 #[.slice A bs.length c] w (DrawnHS w) := by
  have HC := hide (open_any bs A c w hl hc hcm hA)
  clear hA
  go_enter Tryd.func19, Tryd.ntmps19
  go_wp2_with fail
  refine HC.out.mono ?_
  rintro e w1 ⟨R, rfl, hR0, hr1, hb1⟩
  have HB1 := hide hb1
  have HR1 := hide hr1
  have HRw := hide hR0
  have HRl := hide hr1.lt
  clear hb1 hr1 hR0 HC
  go_wp2_with fail
  refine (history_any _ R 0 5 14 HR1.out (by omega) (by omega) (by omega) (by omega)).mono ?_
  rintro e w4 ⟨xs, v, rfl, hx, ho, hS, hr4, hg4⟩
  have HX := hide (show HistS xs from ⟨hx, ho⟩)
  have HS4 := hide hS
  have HR4 := hide hr4
  have HG4 := hide hg4
  clear hx ho hS hr4 hg4 HR1
  obtain ⟨A4, c4, rfl, h41, h42, hr4⟩ := HS4.out
  have HC := hide (spans_any w4 R _ xs.length 40 HR4.out (by omega) (by have := HX.out.1; omega) (by decide))
  have HT4 := hide hr4
  clear hr4 HS4 HR4
  go_wp2_with fail
  refine HC.out.mono ?_
  rintro e w5 ⟨sp, u, rfl, hol, hS5, hr5, hg5⟩
  go_wp2_with fail
  go_ret2
  exact ⟨xs, sp, _, u, rfl, HX.out, hol, (Sl.grNew ⟨A4, c4, rfl, h41, h42, HT4.out⟩ hg5 HRl.out).newOld, hS5.sl.mono (fun b hb => hb.2) (fun _ _ => rfl), below_gr HB1.out (gr_trans HG4.out hg5) HB1.out.size HRw.out⟩
end Go.Proofs.YtaaagoppecnmmaaDoor
