/- The program's SerialOrders. -/
import Derived.Test.YtkcobaimcfggjaaGreatDoorComI
import Derived.Test.YtkcobaimcfggjaaGreatDoorSerR
namespace Go.Proofs.YtkcobaimcfggjaaGreatDoor
open Go.RowKit
set_option linter.unusedVariables false
set_option linter.unusedSimpArgs false

/-- The orders of values of a serial order. -/
def seoR (h : List Txn) (o : List Int) : List (List Int) := if serB h o then instR h o else []
theorem instR_len (h : List Txn) (o : List Int) (ho : o.length ≤ 1048576) : (instR h o).length ≤ 1048576 ∧ ∀ x ∈ instR h o, x.length ≤ 1048576 := by
  refine ⟨by simp [instR], fun x hx => ?_⟩
  unfold instR at hx
  have h0 := instK_len h 0 o
  have h1 := instK_len h 1 o
  have h2 := instK_len h 2 o
  rcases List.mem_cons.1 hx with rfl | hx
  · omega
  · rcases List.mem_cons.1 hx with rfl | hx
    · omega
    · rw [List.mem_singleton] at hx; subst hx; omega
theorem seoR_len (h : List Txn) (o : List Int) (ho : o.length ≤ 1048576) : (seoR h o).length ≤ 1048576 ∧ ∀ x ∈ seoR h o, x.length ≤ 1048576 := by
  unfold seoR
  split
  · exact instR_len h o ho
  · exact ⟨by simp, fun x hx => by cases hx⟩
theorem serB_parts {h : List Txn} {o : List Int} (hs : serB h o = true) : histV h = true ∧ sameB o (doneL h) = true ∧ runsOK h o = true := by
  unfold serB at hs
  rw [Bool.and_eq_true, Bool.and_eq_true] at hs
  exact hs
set_option maxRecDepth 10000 in
set_option maxHeartbeats 1000000 in
theorem implSerialOrders (xs : List Txn) (o : List Int) (A B : Option Addr) (c d : Nat) (w : World) (hm : xs.length ≤ maxLen) (hmo : o.length ≤ 1048576) (hA : Row tTxn w (Old w) A xs) (hN : Row tInt w (Old w) B o) :
    Calls Tryz.prog 20 #[.slice A xs.length c, .slice B o.length d] w fun e w' => ∃ v, e = .returned v ∧ HoldS w' (New w w') (seoR xs o) v ∧ Below w.heap.size w w' := by
  have HC := hide (implSerialRight xs o A B c d w hm hmo hA hN)
  cases hs : serB xs o with
  | false =>
    have HR := hide (show seoR xs o = [] by unfold seoR; rw [hs]; rfl)
    rw [hs] at HC
    clear hs hA hN
    go_enter Tryz.func20, Tryz.ntmps20
    go_wp2_with (go_at_call 18; refine HC.out.mono ?_; rintro e w1 ⟨rfl, hb1⟩; have HB1 := hide hb1; clear hb1)
    go_ret
    exact ⟨_, rfl, by rw [HR.out]; exact HoldS.nil, HB1.out⟩
  | true =>
    have HR := hide (show seoR xs o = instR xs o by unfold seoR; rw [hs]; rfl)
    rw [hs] at HC
    obtain ⟨hv, hsm, hrn⟩ := serB_parts hs
    have hl6 := same_len hv hsm
    have hin := same_in hsm
    have HI := hide (fun W (hb : Below w.heap.size w W) => implInstalls xs o A B c d W hv hin (by omega) (hA.old hb) (hN.old hb))
    clear hs hv hsm hrn hin hA hN
    go_enter Tryz.func20, Tryz.ntmps20
    go_wp2_with fail
    refine HC.out.mono ?_
    rintro e w1 ⟨rfl, hb1⟩
    have HB1 := hide hb1
    have HI1 := hide (HI.out w1 hb1)
    clear hb1 HI
    go_wp2_with (go_at_call 75; refine HI1.out.mono ?_; rintro e w7 ⟨v7, rfl, hS, hb⟩; have HS := hide hS; have HB7 := hide hb; clear hS hb)
    go_ret
    exact ⟨_, rfl, by rw [HR.out]; exact HS.out.mono (fun b h => ⟨Nat.le_trans HB1.out.size h.1, h.2⟩) (fun _ _ => rfl), HB1.out.trans (HB7.out.mono HB1.out.size)⟩
end Go.Proofs.YtkcobaimcfggjaaGreatDoor
