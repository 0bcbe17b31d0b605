/- The program's FirstReads and LastWrites. -/
import Derived.Test.YtaaagoppecnmmaaDoorFirstI
import Derived.Test.YtaaagoppecnmmaaDoorHMath
namespace Go.Proofs.YtaaagoppecnmmaaDoor
open Go.RowKit
set_option linter.unusedVariables false
set_option linter.unusedSimpArgs false

def firstP (t : Txn) : List Op := if txnOk t then firstR t.Ops else []
set_option maxRecDepth 10000 in
set_option maxHeartbeats 1000000 in
theorem implFirstReadsP (t : Txn) (A : Option Addr) (c : Nat) (w : World) (hm : t.Ops.length ≤ maxLen) (hA : Row tOp w (Old w) A t.Ops) :
    Calls Tryd.prog 45 #[.agg #[.int .i64 t.Session, .slice A t.Ops.length c, .bool t.Done]] w fun e w' => ∃ v, e = .returned v ∧ Sl tOp w' (New w w') (firstP t) v ∧ Below w.heap.size w w' := by
  obtain ⟨W, hW⟩ : ∃ W, W = w.alloc (.cells #[.int .i64 t.Session, .slice A t.Ops.length c, .bool t.Done] 42) := ⟨_, rfl⟩
  have hbW : Below w.heap.size w W := by rw [hW]; exact (Below.refl _ w).alloc (Nat.le_refl _) _
  have hB : Blk W w.heap.size 42 #[.int .i64 t.Session, .slice A t.Ops.length c, .bool t.Done] := by rw [hW]; exact Blk.new w _ _
  have HV := hide (implTxnValid t A c W hm (hA.old hbW))
  have c0 := hB.cell 0
  have c1 := hB.cell 1
  have c2 := hB.cell 2
  simp only [List.getElem?_toArray, List.getElem?_cons_zero, List.getElem?_cons_succ] at c0 c1 c2
  have HbW := hide hbW; have HB := hide hB; have HA := hide hA
  clear hbW hB hA
  cases hv : txnOk t with
  | false =>
    have HF := hide (show firstP t = [] by unfold firstP; rw [hv]; rfl)
    rw [hv] at HV
    rw [HF.out]
    clear hv
    go_enter Tryd.func45, Tryd.ntmps45
    go_upto_region 1 with (fail)
    rw [← hW]
    clear hW
    go_wp2_with fail
    refine HV.out.mono ?_
    rintro e w1 ⟨rfl, hb1⟩
    have HB1 := hide (HbW.out.trans (hb1.mono HbW.out.size))
    clear hb1
    go_wp2_with fail
    go_ret
    exact ⟨_, rfl, ⟨none, 0, rfl, Nat.le_refl _, by simp [maxLen], Row.nil⟩, HB1.out⟩
  | true =>
    have HF := hide (show firstP t = firstR t.Ops by unfold firstP; rw [hv]; rfl)
    obtain ⟨hok, h6⟩ := txnOk_parts hv
    have HO := hide hok
    rw [hv] at HV
    rw [HF.out]
    clear hv hok
    go_enter Tryd.func45, Tryd.ntmps45
    go_upto_region 1 with (fail)
    rw [← hW]
    clear hW
    go_wp2_with fail
    refine HV.out.mono ?_
    rintro e w1 ⟨rfl, hb1⟩
    have hB1 := HB.out.below hb1 HB.out.lt
    have d0 := hB1.cell 0
    have d1 := hB1.cell 1
    have d2 := hB1.cell 2
    simp only [List.getElem?_toArray, List.getElem?_cons_zero, List.getElem?_cons_succ] at d0 d1 d2
    have HB1 := hide (HbW.out.trans (hb1.mono HbW.out.size))
    have HC := hide (implFirstReads t A c w1 h6 HO.out (HA.out.old HB1.out))
    clear hb1 hB1
    go_wp2_with fail
    refine HC.out.mono ?_
    rintro e w2 ⟨v, rfl, hS, hb2⟩
    have HS := hide hS
    have HB2 := hide (HB1.out.trans (hb2.mono HB1.out.size))
    clear hS hb2
    go_wp2_with fail
    go_ret
    exact ⟨_, rfl, HS.out.mono (fun b hb => ⟨Nat.le_trans HB1.out.size hb.1, hb.2⟩) (fun _ _ => rfl), HB2.out⟩
end Go.Proofs.YtaaagoppecnmmaaDoor
