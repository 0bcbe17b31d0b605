/- DrawSerialRight: some history, and some order. -/
import Derived.Test.YtaaagoppecnmmaaGreatDoorDrOrd
namespace Go.Proofs.YtaaagoppecnmmaaGreatDoor
open Go.RowKit
set_option linter.unusedVariables false
set_option linter.unusedSimpArgs false

def DrawnHO (w : World) (e : Ending) (w' : World) : Prop := ∃ (xs : List Txn) (o : List Int) (v u : Value), e = .returned (.tuple #[v, u]) ∧ HistS xs ∧ o.length ≤ 101 ∧ Sl tTxn w' (Old w') xs v ∧ Sl tInt w' (Old w') o u ∧ Below w.heap.size w w'
set_option maxRecDepth 10000 in
set_option maxHeartbeats 2000000 in
theorem drawSerialRight (bs : List Int) (A : Option Addr) (c : Nat) (w : World) (hl : bs.length ≤ 1048576) (hc : bs.length ≤ c) (hcm : c ≤ maxLen) (hA : Row tByte w (Old w) A bs) :
    Calls Tryz.prog 19 #[.slice A bs.length c] w (DrawnHO w) := by
  have HC := hide (open_any bs A c w hl hc hcm hA)
  clear hA
  go_enter Tryz.func19, Tryz.ntmps19
  go_wp2_with fail
  refine HC.out.mono ?_
  rintro e w1 ⟨R, rfl, hR0, hr1, hb1⟩
  have HB1 := hide hb1
  have HR1 := hide hr1
  have HRw := hide hR0
  have HRl := hide hr1.lt
  clear hb1 hr1 hR0 HC
  go_wp2_with fail
  refine (history_any _ R 0 5 12 HR1.out (by omega) (by omega) (by omega) (by omega)).mono ?_
  rintro e w4 ⟨xs, v, rfl, hx, ho, hS, hr4, hg4⟩
  have HX := hide (show HistS xs from ⟨hx, ho⟩)
  have HS4 := hide hS
  have HR4 := hide hr4
  have HG4 := hide hg4
  clear hx ho hS hr4 hg4 HR1
  obtain ⟨A4, c4, rfl, h41, h42, hr4⟩ := HS4.out
  have HC := hide (order_any w4 R _ xs A4 c4 HR4.out (by omega) HX.out (hr4.mono (fun b hb => ⟨Nat.lt_of_lt_of_le HRl.out hb.1, hb.2⟩) (fun _ _ => rfl)))
  have HT4 := hide hr4
  clear hr4 HS4 HR4
  go_wp2_with fail
  refine HC.out.mono ?_
  rintro e w5 ⟨o, u, rfl, hol, hS5, hr5, hg5⟩
  go_wp2_with fail
  go_ret2
  exact ⟨xs, o, _, u, rfl, HX.out, hol, (Sl.grNew ⟨A4, c4, rfl, h41, h42, HT4.out⟩ hg5 HRl.out).newOld, hS5.newOld, below_gr HB1.out (gr_trans HG4.out hg5) HB1.out.size HRw.out⟩
end Go.Proofs.YtaaagoppecnmmaaGreatDoor
