/- DrawVersionOf, DrawSessionBreaks, DrawEdgesOf: some history, some orders, and numbers. -/
import Derived.Test.YtkcobaimcfggjaaGreatDoorDrRows
import Derived.Deep.RegionWith
namespace Go.Proofs.YtkcobaimcfggjaaGreatDoor
open Go.RowKit
set_option linter.unusedVariables false
set_option linter.unusedSimpArgs false

def DrawnHRNN (w : World) (e : Ending) (w' : World) : Prop := ∃ (xs : List Txn) (os : List (List Int)) (v u : Value) (a b : Int), e = .returned (.tuple #[v, u, .int .i64 a, .int .i64 b]) ∧ HistS xs ∧ os.length ≤ 3 ∧ (∀ o ∈ os, o.length ≤ 12) ∧ Sl tTxn w' (Old w') xs v ∧ Sl (tSlice tInt) w' (Old w') os u ∧ Below w.heap.size w w'
def DrawnHRN (w : World) (e : Ending) (w' : World) : Prop := ∃ (xs : List Txn) (os : List (List Int)) (v u : Value) (a : Int), e = .returned (.tuple #[v, u, .int .i64 a]) ∧ HistS xs ∧ os.length ≤ 3 ∧ (∀ o ∈ os, o.length ≤ 12) ∧ Sl tTxn w' (Old w') xs v ∧ Sl (tSlice tInt) w' (Old w') os u ∧ Below w.heap.size w w'
def DrawnHR (w : World) (e : Ending) (w' : World) : Prop := ∃ (xs : List Txn) (os : List (List Int)) (v u : Value), e = .returned (.tuple #[v, u]) ∧ HistS xs ∧ os.length ≤ 3 ∧ (∀ o ∈ os, o.length ≤ 12) ∧ Sl tTxn w' (Old w') xs v ∧ Sl (tSlice tInt) w' (Old w') os u ∧ Below w.heap.size w w'
set_option maxRecDepth 10000 in
set_option maxHeartbeats 2000000 in
theorem drawEdgesOf (bs : List Int) (A : Option Addr) (c : Nat) (w : World) (hl : bs.length ≤ 1048576) (hc : bs.length ≤ c) (hcm : c ≤ maxLen) (hA : Row tByte w (Old w) A bs) :
    Calls Tryz.prog 10 #[.slice A bs.length c] w (DrawnHR w) := by
  have HC := hide (open_any bs A c w hl hc hcm hA)
  clear hA
  go_enter Tryz.func10, Tryz.ntmps10
  go_wp2_with fail
  refine HC.out.mono ?_
  rintro e w1 ⟨R, rfl, hR0, hr1, hb1⟩
  have HB1 := hide hb1
  have HR1 := hide hr1
  have HRw := hide hR0
  have HRl := hide hr1.lt
  clear hb1 hr1 hR0 HC
  go_wp2_with fail
  refine (history_any _ R 0 5 9 HR1.out (by omega) (by omega) (by omega) (by omega)).mono ?_
  rintro e w4 ⟨xs, v, rfl, hx, ho, hS, hr4, hg4⟩
  have HX := hide (show HistS xs from ⟨hx, ho⟩)
  have HS4 := hide hS
  have HR4 := hide hr4
  have HG4 := hide hg4
  clear hx ho hS hr4 hg4 HR1
  obtain ⟨A4, c4, rfl, h41, h42, hr4⟩ := HS4.out
  have HC := hide (ordersD_any w4 R _ xs A4 c4 9 HR4.out (by omega) (by decide) HX.out (hr4.mono (fun b hb => ⟨Nat.lt_of_lt_of_le HRl.out hb.1, hb.2⟩) (fun _ _ => rfl)))
  have HT4 := hide hr4
  have HR4l := hide (Nat.lt_of_lt_of_le HRl.out HG4.out.size)
  clear hr4 HS4 HR4
  go_wp2_with fail
  refine HC.out.mono ?_
  rintro e w5 ⟨os, u, rfl, hol, hoo, hS5, hr5, hg5⟩
  have HS5 := hide (Sl.grNew (v := .slice A4 xs.length c4) ⟨A4, c4, rfl, h41, h42, HT4.out⟩ hg5 HRl.out)
  have HU5 := hide hS5
  have HR5 := hide hr5
  have HG5 := hide (gr_trans HG4.out hg5)
  have HOo := hide hoo
  clear hS5 hr5 hg5 HT4 HC HG4 hoo
  go_wp2_with fail
  go_ret2
  exact ⟨xs, os, _, u, rfl, HX.out, hol, HOo.out, HS5.out.newOld, HU5.out.newOld, below_gr HB1.out HG5.out HB1.out.size HRw.out⟩
end Go.Proofs.YtkcobaimcfggjaaGreatDoor
