/- DrawDropTxn: some history, and some number. -/
import Derived.Test.YtaaagoppecnmmaaDoorHKit
namespace Go.Proofs.YtaaagoppecnmmaaDoor
open Go.RowKit
set_option linter.unusedVariables false
set_option linter.unusedSimpArgs false

def DrawnHN (w : World) (e : Ending) (w' : World) : Prop := ∃ (xs : List Txn) (v : Value) (n : Int), e = .returned (.tuple #[v, .int .i64 n]) ∧ HistS xs ∧ Sl tTxn w' (Old w') xs v ∧ Below w.heap.size w w'
set_option maxRecDepth 10000 in
set_option maxHeartbeats 2000000 in
theorem drawDropTxn (bs : List Int) (A : Option Addr) (c : Nat) (w : World) (hl : bs.length ≤ 1048576) (hc : bs.length ≤ c) (hcm : c ≤ maxLen) (hA : Row tByte w (Old w) A bs) :
    Calls Tryd.prog 12 #[.slice A bs.length c] w (DrawnHN w) := by
  have HC := hide (open_any bs A c w hl hc hcm hA)
  clear hA
  go_enter Tryd.func12, Tryd.ntmps12
  go_wp2_with fail
  refine HC.out.mono ?_
  rintro e w1 ⟨R, rfl, hR0, hr1, hb1⟩
  have HB1 := hide hb1
  have HR1 := hide hr1
  have HRw := hide hR0
  have HRl := hide hr1.lt
  clear hb1 hr1 hR0 HC
  go_wp2_with fail
  refine (history_any _ R 0 5 9 HR1.out (by omega) (by omega) (by omega) (by omega)).mono ?_
  rintro e w4 ⟨xs, v, rfl, hx, ho, hS, hr4, hg4⟩
  have HX := hide (show HistS xs from ⟨hx, ho⟩)
  have HS4 := hide hS
  have HR4 := hide hr4
  have HG4 := hide hg4
  clear hx ho hS hr4 hg4 HR1
  go_wp2_with fail
  refine (pick_any _ R _ 7 HR4.out (by omega)).mono ?_
  rintro e w5 ⟨y, rfl, hy0, hy1, hr5, hg5⟩
  have hy7 := hy1 (by decide)
  have HS5 := hide (HS4.out.grNew hg5 HRl.out)
  have HR5 := hide hr5
  have HG5 := hide (gr_trans HG4.out hg5)
  clear hy1 hr5 hg5 HS4 HR4 HG4
  go_wp2_with fail
  refine (pick_any _ R _ 9 HR5.out (by omega)).mono ?_
  rintro e w6 ⟨z, rfl, hz0, hz1, hr6, hg6⟩
  have hz9 := hz1 (by decide)
  have HS6 := hide (HS5.out.grNew hg6 HRl.out)
  have HG6 := hide (gr_trans HG5.out hg6)
  clear hz1 hr6 hg6 HS5 HG5 HR5
  go_wp2_with fail
  go_ret2
  exact ⟨xs, v, _, rfl, HX.out, HS6.out.newOld, below_gr HB1.out HG6.out HB1.out.size HRw.out⟩
end Go.Proofs.YtaaagoppecnmmaaDoor
