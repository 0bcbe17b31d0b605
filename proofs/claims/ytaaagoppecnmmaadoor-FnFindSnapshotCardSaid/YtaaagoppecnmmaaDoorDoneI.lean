/- The program's DoneTxns. -/
import Derived.Test.YtaaagoppecnmmaaDoorDone
namespace Go.Proofs.YtaaagoppecnmmaaDoor
open Go.RowKit
set_option linter.unusedVariables false
set_option linter.unusedSimpArgs false

theorem implDoneTxns (xs : List Txn) (A : Option Addr) (c : Nat) (w : World) (hm : xs.length ≤ 1048576) (hA : Row tTxn w (Old w) A xs) :
    Calls Tryd.prog 30 #[.slice A xs.length c] w fun e w' => ∃ v, e = .returned v ∧ Own tInt 3 w' (New w w') (doneR xs) v ∧ Below w.heap.size w w' := by
  have HH := hide (implHistoryValid xs A c w (by simp only [maxLen]; omega) hA)
  have HA := hide hA
  clear hA
  cases hv : histV xs with
  | false =>
    have HF := hide (show doneR xs = [] by unfold doneR; rw [hv]; rfl)
    rw [hv] at HH
    rw [HF.out]
    clear hv
    go_enter Tryd.func30, Tryd.ntmps30
    go_wp2_with (go_at_call 18; refine HH.out.mono ?_; rintro e w' ⟨rfl, hb'⟩)
    go_ret
    exact ⟨_, rfl, Own.nil_, hb'⟩
  | true =>
    have HF := hide (show doneR xs = doneL xs by unfold doneR; rw [hv]; rfl)
    rw [hv] at HH
    rw [HF.out]
    clear hv
    go_enter Tryd.func30, Tryd.ntmps30
    go_wp2_with fail
    refine HH.out.mono ?_
    rintro e w1 ⟨rfl, hb1⟩
    have HB1 := hide hb1
    have HC := hide (implDone xs A c w1 hm (HA.out.old hb1))
    clear hb1
    go_wp2_with (go_at_call 73; refine HC.out.mono ?_; rintro e w2 ⟨v, rfl, hO, hb2⟩)
    go_ret
    exact ⟨v, rfl, hO.mono (fun b hb => ⟨Nat.le_trans HB1.out.size hb.1, hb.2⟩) (fun _ _ => rfl), HB1.out.trans (hb2.mono HB1.out.size)⟩
end Go.Proofs.YtaaagoppecnmmaaDoor
