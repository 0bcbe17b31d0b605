/- The program's TxnValid and the predicates over it. -/
import Derived.Test.YtmlbfhknapkhgaaDoorHistS
import Derived.Test.YtmlbfhknapkhgaaDoorContB
import Derived.Test.YtmlbfhknapkhgaaDoorContC
namespace Go.Proofs.YtmlbfhknapkhgaaDoor
open Go.RowKit
set_option linter.unusedVariables false
set_option linter.unusedSimpArgs false

theorem opLit (o : Op) (w : World) : Calls Tryd.prog 82 #[.agg #[.int .i64 o.Kind, .int .i64 o.Key, .int .i64 o.Value]] w fun e w' => e = .returned (.bool (!opOk o)) ∧ Below w.heap.size w w' := by
  have HV := hide (fun W => opValid_any o W)
  go_enter Tryd.func82, Tryd.ntmps82
  go_wp2_with (go_at_call 83; refine (HV.out _).mono ?_; rintro e w' ⟨rfl, hb'⟩; have HB := hide hb'; clear hb')
  go_ret
  exact ⟨rfl, ((Below.refl _ w).alloc (Nat.le_refl _) _).trans (HB.out.mono (by simp))⟩
set_option maxHeartbeats 400000 in
theorem implTxnValid (t : Txn) (A : Option Addr) (c : Nat) (w : World) (hm : t.Ops.length ≤ maxLen) (hA : Row tOp w (Old w) A t.Ops) :
    Calls Tryd.prog 61 #[.agg #[.int .i64 t.Session, .slice A t.Ops.length c, .bool t.Done]] w fun e w' => e = .returned (.bool (txnOk t)) ∧ Below w.heap.size w w' := by
  have hB : Below w.heap.size w (w.alloc (.cells #[.int .i64 t.Session, .slice A t.Ops.length c, .bool t.Done] 64)) := (Below.refl _ _).alloc (Nat.le_refl _) _
  have HB := hide hB
  have hcont := hide (cont_Op t.Ops A c _ 82 #[] (fun o => !opOk o) (enters_of Tryd.func82 (by kernel_rfl) rfl) hm (hA.old hB)
    (fun x _ cs hr W hW => by
      obtain rfl := hr
      exact (opLit x W).mono (by rintro e w' ⟨rfl, hb⟩; exact ⟨rfl, hW.trans (hb.mono hW.size)⟩)))
  have hm' : t.Ops.length ≤ 9223372036854775807 := by simpa [maxLen] using hm
  clear hA hB hm
  cases hq : inR t.Session 0 3 with
  | false =>
    have HO := hide (show txnOk t = false by unfold txnOk; rw [hq]; simp)
    go_enter Tryd.func61, Tryd.ntmps61
    go_wp2_with (go_at_call 80; refine (sessionOk _ _).mono ?_; rintro e w' ⟨rfl, rfl⟩)
    go_ret
    exact ⟨ret_bool HO.out.symm, HB.out⟩
  | true =>
    by_cases hq2 : t.Ops.length ≤ 6
    · have HO := hide (show (!(t.Ops.any fun o => !opOk o)) = txnOk t by unfold txnOk; rw [hq, List.any_eq_not_all_not]; simp [hq2])
      have hq2' : (t.Ops.length : Int) ≤ 6 := by omega
      go_enter Tryd.func61, Tryd.ntmps61
      go_wp2_with (first | (go_at_call 80; refine (sessionOk _ _).mono ?_; rintro e w' ⟨rfl, rfl⟩) | (go_at_call 81; refine hcont.out.mono ?_; rintro e w' ⟨rfl, hb'⟩; have HB' := hide hb'; clear hb'))
      go_ret
      exact ⟨ret_bool HO.out, HB.out.trans (HB'.out.mono (by simp))⟩
    · have HO := hide (show txnOk t = false by unfold txnOk; simp [hq2])
      have hq2' : ¬ (t.Ops.length : Int) ≤ 6 := by omega
      go_enter Tryd.func61, Tryd.ntmps61
      go_wp2_with (go_at_call 80; refine (sessionOk _ _).mono ?_; rintro e w' ⟨rfl, rfl⟩)
      go_ret
      exact ⟨ret_bool HO.out.symm, HB.out⟩
theorem txnLit (t : Txn) (A : Option Addr) (c : Nat) (w : World) (hm : t.Ops.length ≤ maxLen) (hA : Row tOp w (Old w) A t.Ops) :
    Calls Tryd.prog 60 #[.agg #[.int .i64 t.Session, .slice A t.Ops.length c, .bool t.Done]] w fun e w' => e = .returned (.bool (!txnOk t)) ∧ Below w.heap.size w w' := by
  have hB : Below w.heap.size w (w.alloc (.cells #[.int .i64 t.Session, .slice A t.Ops.length c, .bool t.Done] 64)) := (Below.refl _ _).alloc (Nat.le_refl _) _
  have H := hide (implTxnValid t A c _ hm (hA.old hB))
  clear hA hB
  go_enter Tryd.func60, Tryd.ntmps60
  go_wp2_with (go_at_call 61; refine H.out.mono ?_; rintro e w' ⟨rfl, hb'⟩; have HB := hide hb'; clear hb')
  go_ret
  exact ⟨rfl, ((Below.refl _ w).alloc (Nat.le_refl _) _).trans (HB.out.mono (by simp))⟩
end Go.Proofs.YtmlbfhknapkhgaaDoor
