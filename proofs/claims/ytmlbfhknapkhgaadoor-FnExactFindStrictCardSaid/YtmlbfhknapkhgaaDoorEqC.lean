/- Comparing equal data of the laws package answers true: transactions. -/
import Derived.Test.YtmlbfhknapkhgaaDoorProg
import Derived.Test.YtmlbfhknapkhgaaDoorBase
import Derived.Test.YtmlbfhknapkhgaaDoorElems
import Derived.Test.YtmlbfhknapkhgaaDoorEqA
namespace Go.Proofs.YtmlbfhknapkhgaaDoor
open Go.RowKit

set_option maxHeartbeats 400000 in
theorem eqTxn (x : Txn) (w : World) (A B : Option Addr) (c d : Nat) (hl : x.Ops.length ≤ maxLen) (hA : Row tOp w (Old w) A x.Ops) (hB : Row tOp w (Old w) B x.Ops) :
    Calls Tryd.prog 42 #[.agg #[.int .i64 x.Session, .slice A x.Ops.length c, .bool x.Done], .agg #[.int .i64 x.Session, .slice B x.Ops.length d, .bool x.Done]] w fun e w' => e = .returned (.bool true) ∧ Below w.heap.size w w' := by
  go_enter Tryd.func42, Tryd.ntmps42
  go_wp2_with (go_at_call 72; refine (eqOpS x.Ops A B c d _ hl (hA.old (((Below.refl _ w).alloc (Nat.le_refl _) _).alloc (by simp) _)) (hB.old (((Below.refl _ w).alloc (Nat.le_refl _) _).alloc (by simp) _))).mono ?_; rintro e w' ⟨rfl, hb'⟩; have HB := hide hb'; clear hb'; clear hA hB; obtain ⟨hc, hf⟩ := bcell HB.out; have hz : w.heap.size + 2 ≤ w'.heap.size := (by have := HB.out.size; simpa using this))
  go_ret
  exact ⟨rfl, (((Below.refl _ w).alloc (Nat.le_refl _) _).alloc (by simp) _).trans (HB.out.mono (by simp; omega))⟩
set_option maxRecDepth 10000 in
set_option maxHeartbeats 400000 in
theorem eqTxnS (xs : List Txn) (A B : Option Addr) (c d : Nat) (w : World) (hl : xs.length ≤ maxLen) (hn : ∀ x ∈ xs, x.Ops.length ≤ maxLen) (hA : Row tTxn w (Old w) A xs) (hB : Row tTxn w (Old w) B xs) :
    Calls Tryd.prog 13 #[.slice A xs.length c, .slice B xs.length d] w fun e w' => e = .returned (.bool true) ∧ Below w.heap.size w w' := by
  unfold maxLen at hl
  go_enter Tryd.func13, Tryd.ntmps13
  go_wp2
  go_loopw [5] (fun i wr => ∃ k : Nat, k ≤ xs.length ∧ i = .int .i64 k ∧ Below w.heap.size w wr) (fun i _ => xs.length - (intOf i).toNat)
  case atStart => exact ⟨0, Nat.zero_le _, rfl, Below.refl _ _⟩
  case round =>
    obtain ⟨k, hk, rfl, hb⟩ := hrel
    by_cases hlt : k < xs.length
    · have hi0 := hn xs[k] (List.getElem_mem hlt)
      obtain ⟨b, off, A3, c3, rfl, hbS, c0_, c1_, c2_, hi1, hi2, hi3⟩ := at_Txn hA hb hlt
      obtain ⟨b2, off2, A4, c4, rfl, hbS2, d0_, d1_, d2_, hj1, hj2, hj3⟩ := at_Txn hB hb hlt
      clear hA hB hn
      have HI := hide hi3; clear hi3; have HJ := hide hj3; clear hj3
      go_wp2
      go_still_tail 8, (by kernel_rfl)
      have hbd : Below wr.heap.size wr wr.drew := (Below.refl _ _).drew
      change wpList _ _ _ _ _ wr.drew
      have hcall := (eqTxn xs[k] wr.drew A3 A4 c3 c4 hi0 (HI.out.old hbd) (HJ.out.old hbd))
      have hb2 : Below w.heap.size w wr.drew := hb.drew
      clear hbd
      generalize wr.drew = w2 at hb2 hcall ⊢
      have HC := hide hcall
      clear hcall
      go_wp2_with (go_at_call 42; refine HC.out.mono ?_; rintro e w' ⟨rfl, hb'⟩)
      go_roundw
      case rel => exact ⟨k + 1, by omega, by go_num, hb2.trans (hb'.mono hb2.size)⟩
      case measure => simp [intOf]; omega
    · clear hA hB hn
      go_wp2
      go_ret
      exact ⟨rfl, hb⟩
end Go.Proofs.YtmlbfhknapkhgaaDoor
