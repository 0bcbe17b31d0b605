/- EdgesOf of the program and of the reference, for all orders; comparing equal edges. -/
import Derived.Test.YtkcobaimcfggjaaGreatDoorEdgS
import Derived.Test.YtkcobaimcfggjaaGreatDoorAno
namespace Go.Proofs.YtkcobaimcfggjaaGreatDoor
open Go.RowKit
set_option linter.unusedVariables false
set_option linter.unusedSimpArgs false

theorem edgR_no {h : List Txn} {os : List (List Int)} (ho : ordB h os = false) : edgR h os = [] := by unfold edgR; rw [ho]; rfl
theorem implEdgesOf (xs : List Txn) (os : List (List Int)) (A B : Option Addr) (c d : Nat) (w : World) (hm : xs.length ≤ maxLen) (hmo : os.length ≤ 1048576) (hsz : ∀ o ∈ os, o.length ≤ 1048576) (hA : Row tTxn w (Old w) A xs) (hB : Row (tSlice tInt) w (Old w) B os) :
    Calls Tryz.prog 11 #[.slice A xs.length c, .slice B os.length d] w fun e w' => ∃ v, e = .returned v ∧ Sl tEdge w' (New w w') (edgR xs os) v ∧ Below w.heap.size w w' := by
  cases ho : ordB xs os with
  | true => rw [edgR_ok ho]; exact implEdgesT sortC_holds xs os A B c d w ho hA hB
  | false =>
    have HOv := hide (fun (W : World) (hb : Below w.heap.size w W) => implOrdersValid xs os A B c d W hm hmo hsz (hA.old hb) (hB.old hb))
    have HB0 := hide ((Below.refl _ w).alloc (Nat.le_refl _) (.cells #[.slice A xs.length c] 23))
    have HO1 := hide (HOv.out _ HB0.out)
    rw [ho] at HO1
    rw [edgR_no ho]
    clear ho hA hB HOv
    go_enter Tryz.func11, Tryz.ntmps11
    go_wp2_with (go_at_call 24; refine HO1.out.mono ?_; rintro e w1 ⟨rfl, hb1⟩; have HB1 := hide (HB0.out.trans (hb1.mono HB0.out.size)); clear hb1)
    go_ret
    exact ⟨_, rfl, ⟨none, 0, rfl, by simp, by simp [maxLen], Row.nil⟩, HB1.out⟩
theorem specEdgesOf (xs : List Txn) (os : List (List Int)) (A B : Option Addr) (c d : Nat) (w : World) (hm : xs.length ≤ maxLen) (ht : opsN xs ≤ 1048576) (hmo : os.length ≤ 1048576) (hsz : ∀ o ∈ os, o.length ≤ 1048576) (hA : Row tTxn w (Old w) A xs) (hB : Row (tSlice tInt) w (Old w) B os) :
    Calls Tryz.prog 13 #[.slice A xs.length c, .slice B os.length d] w fun e w' => ∃ v, e = .returned v ∧ Sl tEdge w' (New w w') (edgR xs os) v ∧ Below w.heap.size w w' := by
  cases ho : ordB xs os with
  | true => rw [edgR_ok ho]; exact specEdges1 xs os A B c d w ht ho hA hB
  | false =>
    have HOv := hide (fun (W : World) (hb : Below w.heap.size w W) => specOrdersValid xs os A B c d W hm ht hmo hsz (hA.old hb) (hB.old hb))
    have HB0 := hide ((Below.refl _ w).alloc (Nat.le_refl _) (.cells #[] 67))
    have HE0 := hide (Own.empty (T := tEdge) (e := 67) w (fun b => w.heap.size ≤ b) (Nat.le_refl _))
    have HO1 := hide (HOv.out _ HB0.out)
    rw [ho] at HO1
    rw [edgR_no ho]
    clear ho hA hB HOv
    go_enter Tryz.func13, Tryz.ntmps13
    go_wp2_with (go_at_call 15; refine HO1.out.mono ?_; rintro e w1 ⟨rfl, hb1⟩; have HB1 := hide (HB0.out.trans (hb1.mono HB0.out.size)); have HE1 := hide (HE0.out.onlyBelow hb1); clear hb1)
    go_ret
    exact ⟨_, rfl, HE1.out.sl, HB1.out⟩
set_option maxRecDepth 10000 in
set_option maxHeartbeats 2000000 in
theorem sameEdges_any (xs : List Edge) (A B : Option Addr) (c d : Nat) (w : World) (hl : xs.length ≤ maxLen) (hA : Row tEdge w (Old w) A xs) (hB : Row tEdge w (Old w) B xs) :
    Calls Tryz.prog 12 #[.slice A xs.length c, .slice B xs.length d] w fun e w' => e = .returned (.bool true) ∧ Below w.heap.size w w' := by
  have hq : xs.length ≤ 9223372036854775807 := by simpa [maxLen] using hl
  have HA := hide hA; have HB := hide hB
  clear hA hB hl
  go_enter Tryz.func12, Tryz.ntmps12
  go_wp2
  go_loopw [5] (fun i wr => ∃ k : Nat, k ≤ xs.length ∧ i = .int .i64 k ∧ Below w.heap.size w wr) (fun i _ => xs.length - (intOf i).toNat)
  case atStart => exact ⟨0, Nat.zero_le _, rfl, Below.refl _ _⟩
  case round =>
    obtain ⟨k, hk, rfl, hb⟩ := hrel
    by_cases hlt : k < xs.length
    · have hki : (k : Int) < (xs.length : Int) := by omega
      obtain ⟨b, off, hAe, hbS, c0, c1, c2⟩ := at_Edge HA.out hb hlt
      obtain ⟨b2, off2, hBe, hbS2, d0, d1, d2⟩ := at_Edge HB.out hb hlt
      subst hAe hBe
      generalize xs[k] = e at c0 c1 c2 d0 d1 d2
      obtain ⟨f, t, kd⟩ := e
      dsimp only at c0 c1 c2 d0 d1 d2
      clear hbS hbS2
      go_wp2
      go_quiet (fail)
      go_wp2
      go_roundw
      case rel => exact ⟨k + 1, by omega, by go_num, below_drewN hb _⟩
      case measure => simp [intOf]; omega
    · obtain rfl : k = xs.length := by omega
      go_wp2
      go_ret
      exact ⟨rfl, hb⟩
end Go.Proofs.YtkcobaimcfggjaaGreatDoor
