/- DrawVersionOf, DrawSessionBreaks, DrawEdgesOf: some history, some orders, and numbers. -/
import Derived.Test.YtaaagoppecnmmaaDoorDrRows
import Derived.Deep.RegionWith
namespace Go.Proofs.YtaaagoppecnmmaaDoor
open Go.RowKit
set_option linter.unusedVariables false
set_option linter.unusedSimpArgs false

def DrawnHRNN (w : World) (e : Ending) (w' : World) : Prop := ∃ (xs : List Txn) (os : List (List Int)) (v u : Value) (a b : Int), e = .returned (.tuple #[v, u, .int .i64 a, .int .i64 b]) ∧ HistS xs ∧ os.length ≤ 3 ∧ (∀ o ∈ os, o.length ≤ 12) ∧ Sl tTxn w' (Old w') xs v ∧ Sl (tSlice tInt) w' (Old w') os u ∧ Below w.heap.size w w'
def DrawnHRN (w : World) (e : Ending) (w' : World) : Prop := ∃ (xs : List Txn) (os : List (List Int)) (v u : Value) (a : Int), e = .returned (.tuple #[v, u, .int .i64 a]) ∧ HistS xs ∧ os.length ≤ 3 ∧ (∀ o ∈ os, o.length ≤ 12) ∧ Sl tTxn w' (Old w') xs v ∧ Sl (tSlice tInt) w' (Old w') os u ∧ Below w.heap.size w w'
def DrawnHR (w : World) (e : Ending) (w' : World) : Prop := ∃ (xs : List Txn) (os : List (List Int)) (v u : Value), e = .returned (.tuple #[v, u]) ∧ HistS xs ∧ os.length ≤ 3 ∧ (∀ o ∈ os, o.length ≤ 12) ∧ Sl tTxn w' (Old w') xs v ∧ Sl (tSlice tInt) w' (Old w') os u ∧ Below w.heap.size w w'
set_option maxRecDepth 10000 in
set_option maxHeartbeats 2000000 in
theorem drawVersionOf (bs : List Int) (A : Option Addr) (c : Nat) (w : World) (hl : bs.length ≤ 1048576) (hc : bs.length ≤ c) (hcm : c ≤ maxLen) (hA : Row tByte w (Old w) A bs) :
    Calls Tryd.prog 38 #[.slice A bs.length c] w (DrawnHRNN w) := by
  have HC := hide (open_any bs A c w hl hc hcm hA)
  clear hA
  go_enter Tryd.func38, Tryd.ntmps38
  go_wp2_with fail
  refine HC.out.mono ?_
  rintro e w1 ⟨R, rfl, hR0, hr1, hb1⟩
  have HB1 := hide hb1
  have HR1 := hide hr1
  have HRw := hide hR0
  have HRl := hide hr1.lt
  clear hb1 hr1 hR0 HC
  go_wp2_with fail
  refine (history_any _ R 0 5 9 HR1.out (by omega) (by omega) (by omega) (by omega)).mono ?_
  rintro e w4 ⟨xs, v, rfl, hx, ho, hS, hr4, hg4⟩
  have HX := hide (show HistS xs from ⟨hx, ho⟩)
  have HS4 := hide hS
  have HR4 := hide hr4
  have HG4 := hide hg4
  clear hx ho hS hr4 hg4 HR1
  obtain ⟨A4, c4, rfl, h41, h42, hr4⟩ := HS4.out
  have HC := hide (orders_any w4 R _ xs A4 c4 9 HR4.out (by omega) (by decide) HX.out (hr4.mono (fun b hb => ⟨Nat.lt_of_lt_of_le HRl.out hb.1, hb.2⟩) (fun _ _ => rfl)))
  have HT4 := hide hr4
  have HR4l := hide (Nat.lt_of_lt_of_le HRl.out HG4.out.size)
  clear hr4 HS4 HR4
  go_wp2_with fail
  refine HC.out.mono ?_
  rintro e w5 ⟨os, u, rfl, hol, hoo, hS5, hr5, hg5⟩
  have HS5 := hide (Sl.grNew (v := .slice A4 xs.length c4) ⟨A4, c4, rfl, h41, h42, HT4.out⟩ hg5 HRl.out)
  have HU5 := hide hS5
  have HR5 := hide hr5
  have HG5 := hide (gr_trans HG4.out hg5)
  have HOo := hide hoo
  clear hS5 hr5 hg5 HT4 HC HG4 hoo
  go_wp2_with fail
  refine (pick_any _ R _ 4 HR5.out (by omega)).mono ?_
  rintro e w6 ⟨y6, rfl, p6, q6, hr6, hg6⟩
  have r6 := q6 (by decide)
  have HS6 := hide (HS5.out.grNew hg6 HRl.out)
  have HU6 := hide (HU5.out.grNew hg6 HR4l.out)
  have HR6 := hide hr6
  have HG6 := hide (gr_trans HG5.out hg6)
  clear hr6 hg6 HS5 HU5 HR5 HG5 q6
  go_wp2_with fail
  refine (pick_any _ R _ 14 HR6.out (by omega)).mono ?_
  rintro e w7 ⟨y7, rfl, p7, q7, hr7, hg7⟩
  have r7 := q7 (by decide)
  have HS7 := hide (HS6.out.grNew hg7 HRl.out)
  have HU7 := hide (HU6.out.grNew hg7 HR4l.out)
  have HR7 := hide hr7
  have HG7 := hide (gr_trans HG6.out hg7)
  clear hr7 hg7 HS6 HU6 HR6 HG6 q7
  go_wp2_with fail
  refine (pick_any _ R _ 9 HR7.out (by omega)).mono ?_
  rintro e w8 ⟨y8, rfl, p8, q8, hr8, hg8⟩
  have r8 := q8 (by decide)
  have HS8 := hide (HS7.out.grNew hg8 HRl.out)
  have HU8 := hide (HU7.out.grNew hg8 HR4l.out)
  have HR8 := hide hr8
  have HG8 := hide (gr_trans HG7.out hg8)
  clear hr8 hg8 HS7 HU7 HR7 HG7 q8
  go_wp2_with fail
  refine bodyPost_ret (v := .tuple #[_, u, .int .i64 _, .int .i64 _]) (by simp [results, Tryd.results38, go_sem]; exact ⟨rfl, rfl, rfl⟩) rfl ?_
  exact ⟨xs, os, _, u, _, _, rfl, HX.out, hol, HOo.out, HS8.out.newOld, HU8.out.newOld, below_gr HB1.out HG8.out HB1.out.size HRw.out⟩
end Go.Proofs.YtaaagoppecnmmaaDoor
