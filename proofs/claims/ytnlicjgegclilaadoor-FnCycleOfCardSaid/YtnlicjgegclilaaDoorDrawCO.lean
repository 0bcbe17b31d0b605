/- DrawCycleOf: some edges. -/
import Derived.Test.YtnlicjgegclilaaDoorDrawCR
namespace Go.Proofs.YtnlicjgegclilaaDoor
open Go.RowKit
set_option linter.unusedVariables false
set_option linter.unusedSimpArgs false

def DrawnCO (w : World) (e : Ending) (w' : World) : Prop := ∃ (many : Int) (xs : List Edge) (v : Value), e = .returned (.tuple #[.int .i64 many, v]) ∧ xs.length ≤ 9 ∧ Sl tEdge w' (Old w') xs v ∧ Below w.heap.size w w'
set_option maxRecDepth 10000 in
set_option maxHeartbeats 4000000 in
theorem drawCycleOf (bs : List Int) (A : Option Addr) (c : Nat) (w : World) (hl : bs.length ≤ 1048576) (hc : bs.length ≤ c) (hcm : c ≤ maxLen) (hA : Row tByte w (Old w) A bs) :
    Calls Tryd.prog 9 #[.slice A bs.length c] w (DrawnCO w) := by
  have HC := hide (open_any bs A c w hl hc hcm hA)
  clear hA
  go_enter Tryd.func9, Tryd.ntmps9
  go_wp2_with fail
  refine HC.out.mono ?_
  rintro e w1 ⟨R, rfl, hR0, hr1, hb1⟩
  have HB1 := hide hb1
  have HR1 := hide hr1
  clear hb1 hr1 HC
  go_wp2_with fail
  refine (edges_any _ R 0 9 HR1.out (by omega) (by omega)).mono ?_
  rintro e w2 ⟨many, xs, v, rfl, _, _, hx9, hS, hr2, hg2⟩
  have HB2 := hide (below_gr HB1.out hg2 HB1.out.size hR0)
  have HS2 := hide (hS.mono (S' := Old w2) (fun b h => h.2) (fun _ _ => rfl))
  clear hr2 hg2 hS HR1 HB1
  go_wp2_with fail
  go_ret2
  exact ⟨many, xs, v, rfl, hx9, HS2.out, HB2.out⟩
end Go.Proofs.YtnlicjgegclilaaDoor
