/- sameInts: two lists of numbers are compared. Comparing equal histories answers true: sameOps, sameTxn, sameHistory. -/
import Derived.Test.YtaaagoppecnmmaaDoorProg
import Derived.BigQuiet
import Derived.Test.YtaaagoppecnmmaaDoorElems
namespace Go.Proofs.YtaaagoppecnmmaaDoor
open Go.RowKit
set_option linter.unusedVariables false
set_option linter.unusedSimpArgs false

set_option maxRecDepth 10000 in
set_option maxHeartbeats 2000000 in
theorem sameInts_any (xs ys : List Int) (A B : Option Addr) (c d : Nat) (w : World) (hl : xs.length ≤ maxLen) (hm : ys.length ≤ maxLen) (hA : Row tInt w (Old w) A xs) (hB : Row tInt w (Old w) B ys) :
    Calls Tryd.prog 22 #[.slice A xs.length c, .slice B ys.length d] w fun e w' => e = .returned (.bool (decide (xs = ys))) ∧ Below w.heap.size w w' := by
  unfold maxLen at hl hm
  have HA := hide hA; have HB := hide hB
  clear hA hB
  by_cases hlen : xs.length = ys.length
  · have HL := hide hlen
    have hlenI : (xs.length : Int) = (ys.length : Int) := by omega
    obtain ⟨n, hn⟩ : ∃ n, n = xs.length := ⟨_, rfl⟩
    have hn2 : ys.length = n := by omega
    rw [← hn, hn2]
    rw [← hn] at hl
    have HN := hide hn; have HN2 := hide hn2
    clear hlen hlenI hn hn2 hm
    go_enter Tryd.func22, Tryd.ntmps22
    go_wp2
    go_loopw [5] (fun i wr => ∃ k : Nat, k ≤ n ∧ i = .int .i64 k ∧ Hid (xs.take k = ys.take k) ∧ Below w.heap.size w wr) (fun i _ => n - (intOf i).toNat)
    case atStart => exact ⟨0, Nat.zero_le _, rfl, rfl, Below.refl _ _⟩
    case round =>
      obtain ⟨k, hk, rfl, hI, hb⟩ := hrel
      by_cases hlt : k < n
      · have hkx : k < xs.length := by rw [← HN.out]; exact hlt
        have hky : k < ys.length := by rw [HN2.out]; exact hlt
        have HTx := hide (List.take_succ_eq_append_getElem hkx)
        have HTy := hide (List.take_succ_eq_append_getElem hky)
        obtain ⟨b, off, hAe, hbS, c0⟩ := at_Int HA.out hb hkx
        obtain ⟨b2, off2, hBe, hbS2, c1⟩ := at_Int HB.out hb hky
        subst hAe hBe
        have hki0 : (0 : Int) ≤ (k : Int) := by omega
        have hki : (k : Int) < (n : Int) := by omega
        generalize hx : xs[k] = x at c0 HTx
        generalize hy : ys[k] = y at c1 HTy
        by_cases hxy : x = y
        · subst hxy
          have HTk := hide (show xs.take (k + 1) = ys.take (k + 1) by rw [HTx.out, HTy.out, hI.out])
          clear hx hy hbS hbS2
          go_wp2
          go_quiet (fail)
          go_wp2
          go_roundw
          case rel => exact ⟨k + 1, by omega, by go_num, HTk.out, below_drewN hb _⟩
          case measure => simp [intOf]; omega
        · have HNe := hide (show decide (xs = ys) = false by
            rw [decide_eq_false_iff_not]
            intro h
            subst h
            exact hxy (hx.symm.trans hy))
          clear hx hy hbS hbS2
          go_wp2
          go_quiet (fail)
          go_wp2
          go_ret
          exact ⟨ret_bool HNe.out.symm, below_drewN hb _⟩
      · obtain rfl : k = n := by omega
        have HEq := hide (show decide (xs = ys) = true by
          have h := hI.out
          rw [HN.out, List.take_length, List.take_of_length_le (by have := HL.out; omega)] at h
          simpa using h)
        clear hI
        go_wp2
        go_ret
        exact ⟨ret_bool HEq.out.symm, hb⟩
  · have HNe := hide (show decide (xs = ys) = false by
      rw [decide_eq_false_iff_not]; intro h; exact hlen (by rw [h]))
    have hlenI : ¬ (xs.length : Int) = (ys.length : Int) := by omega
    clear hlen
    go_enter Tryd.func22, Tryd.ntmps22
    go_wp2
    go_ret
    exact ⟨ret_bool HNe.out.symm, Below.refl _ _⟩
set_option maxRecDepth 10000 in
set_option maxHeartbeats 1000000 in
theorem sameOps_any (xs : List Op) (A B : Option Addr) (c d : Nat) (w : World) (hl : xs.length ≤ maxLen) (hA : Row tOp w (Old w) A xs) (hB : Row tOp w (Old w) B xs) :
    Calls Tryd.prog 117 #[.slice A xs.length c, .slice B xs.length d] w fun e w' => e = .returned (.bool true) ∧ Below w.heap.size w w' := by
  unfold maxLen at hl
  have HA := hide hA; have HB := hide hB
  clear hA hB
  go_enter Tryd.func117, Tryd.ntmps117
  go_wp2
  go_loopw [5] (fun i wr => ∃ k : Nat, k ≤ xs.length ∧ i = .int .i64 k ∧ Below w.heap.size w wr) (fun i _ => xs.length - (intOf i).toNat)
  case atStart => exact ⟨0, Nat.zero_le _, rfl, Below.refl _ _⟩
  case round =>
    obtain ⟨k, hk, rfl, hb⟩ := hrel
    by_cases hlt : k < xs.length
    · obtain ⟨b, off, hAe, hbS, c0, c1, c2⟩ := at_Op HA.out hb hlt
      obtain ⟨b2, off2, hBe, hbS2, d0, d1, d2⟩ := at_Op HB.out hb hlt
      subst hAe hBe
      have hki : (k : Int) < (xs.length : Int) := by omega
      generalize xs[k] = x at c0 c1 c2 d0 d1 d2
      clear hbS hbS2
      go_wp2
      go_quiet (fail)
      go_wp2
      go_roundw
      case rel => exact ⟨k + 1, by omega, by go_num, below_drewN hb _⟩
      case measure => simp [intOf]; omega
    · go_wp2
      go_ret
      exact ⟨rfl, hb⟩
set_option maxHeartbeats 1000000 in
theorem sameTxn_any (x : Txn) (w : World) (A B : Option Addr) (c d : Nat) (hl : x.Ops.length ≤ maxLen) (hA : Row tOp w (Old w) A x.Ops) (hB : Row tOp w (Old w) B x.Ops) :
    Calls Tryd.prog 55 #[.agg #[.int .i64 x.Session, .slice A x.Ops.length c, .bool x.Done], .agg #[.int .i64 x.Session, .slice B x.Ops.length d, .bool x.Done]] w fun e w' => e = .returned (.bool true) ∧ Below w.heap.size w w' := by
  go_enter Tryd.func55, Tryd.ntmps55
  go_wp2_with (go_at_call 117; refine (sameOps_any x.Ops A B c d _ hl (hA.old (((Below.refl _ w).alloc (Nat.le_refl _) _).alloc (by simp) _)) (hB.old (((Below.refl _ w).alloc (Nat.le_refl _) _).alloc (by simp) _))).mono ?_; rintro e w' ⟨rfl, hb'⟩; have HB := hide hb'; clear hb'; clear hA hB; obtain ⟨hc, hf⟩ := bcell HB.out; have hz : w.heap.size + 2 ≤ w'.heap.size := (by have := HB.out.size; simpa using this))
  go_ret
  exact ⟨rfl, (((Below.refl _ w).alloc (Nat.le_refl _) _).alloc (by simp) _).trans (HB.out.mono (by simp; omega))⟩
set_option maxRecDepth 10000 in
set_option maxHeartbeats 1000000 in
theorem sameHistory_any (xs : List Txn) (A B : Option Addr) (c d : Nat) (w : World) (hl : xs.length ≤ maxLen) (hn : ∀ x ∈ xs, x.Ops.length ≤ maxLen) (hA : Row tTxn w (Old w) A xs) (hB : Row tTxn w (Old w) B xs) :
    Calls Tryd.prog 15 #[.slice A xs.length c, .slice B xs.length d] w fun e w' => e = .returned (.bool true) ∧ Below w.heap.size w w' := by
  unfold maxLen at hl
  go_enter Tryd.func15, Tryd.ntmps15
  go_wp2
  go_loopw [5] (fun i wr => ∃ k : Nat, k ≤ xs.length ∧ i = .int .i64 k ∧ Below w.heap.size w wr) (fun i _ => xs.length - (intOf i).toNat)
  case atStart => exact ⟨0, Nat.zero_le _, rfl, Below.refl _ _⟩
  case round =>
    obtain ⟨k, hk, rfl, hb⟩ := hrel
    by_cases hlt : k < xs.length
    · have hi0 := hn xs[k] (List.getElem_mem hlt)
      obtain ⟨b, off, A3, c3, rfl, hbS, c0_, c1_, c2_, hi1, hi2, hi3⟩ := at_Txn hA hb hlt
      obtain ⟨b2, off2, A4, c4, rfl, hbS2, d0_, d1_, d2_, hj1, hj2, hj3⟩ := at_Txn hB hb hlt
      clear hA hB hn
      have HI := hide hi3; clear hi3; have HJ := hide hj3; clear hj3
      go_wp2
      go_still_tail 8, (by kernel_rfl)
      have hbd : Below wr.heap.size wr wr.drew := (Below.refl _ _).drew
      change wpList _ _ _ _ _ wr.drew
      have hcall := (sameTxn_any xs[k] wr.drew A3 A4 c3 c4 hi0 (HI.out.old hbd) (HJ.out.old hbd))
      have hb2 : Below w.heap.size w wr.drew := hb.drew
      clear hbd
      generalize wr.drew = w2 at hb2 hcall ⊢
      have HC := hide hcall
      clear hcall
      go_wp2_with (go_at_call 55; refine HC.out.mono ?_; rintro e w' ⟨rfl, hb'⟩)
      go_roundw
      case rel => exact ⟨k + 1, by omega, by go_num, hb2.trans (hb'.mono hb2.size)⟩
      case measure => simp [intOf]; omega
    · clear hA hB hn
      go_wp2
      go_ret
      exact ⟨rfl, hb⟩
end Go.Proofs.YtaaagoppecnmmaaDoor
