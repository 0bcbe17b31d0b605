/- The numbers of the committed transactions: DoneTxns of the reference; done of the program. -/
import Derived.Test.YtkcobaimcfggjaaGreatDoorHMath
import Derived.Test.YtkcobaimcfggjaaGreatDoorPut
import Derived.Test.YtkcobaimcfggjaaGreatDoorToA
namespace Go.Proofs.YtkcobaimcfggjaaGreatDoor
open Go.RowKit
set_option linter.unusedVariables false
set_option linter.unusedSimpArgs false

def doneR (xs : List Txn) : List Int := if histV xs then doneL xs else []
set_option maxRecDepth 10000 in
set_option maxHeartbeats 1000000 in
theorem specDoneTxns (xs : List Txn) (A : Option Addr) (c : Nat) (w : World) (hm : xs.length ≤ maxLen) (ht : opsN xs ≤ 1048576) (hA : Row tTxn w (Old w) A xs) :
    Calls Tryz.prog 78 #[.slice A xs.length c] w fun e w' => ∃ v, e = .returned v ∧ Own tInt 3 w' (New w w') (doneR xs) v ∧ Below w.heap.size w w' := by
  obtain ⟨i0, hi, hz0, hz1, hz2⟩ := info_parts infoInt_
  have HC := hide (fun (W : World) (hb : Below w.heap.size w W) => specHistoryValid xs A c W hm (hA.old hb) ht)
  have HA := hide hA
  have hq : xs.length ≤ 9223372036854775807 := by simpa [maxLen] using hm
  clear hA hm ht
  cases hv : histV xs with
  | false =>
    have HR := hide (show doneR xs = [] by unfold doneR; rw [hv]; rfl)
    rw [hv] at HC
    have HC1 := hide (HC.out (w.alloc (.cells #[] 3)) ((Below.refl _ w).alloc (Nat.le_refl _) _))
    have HO := hide (Own.empty (T := tInt) (e := 3) w (fun b => w.heap.size ≤ b) (Nat.le_refl _))
    clear hv HC
    go_enter Tryz.func78, Tryz.ntmps78
    go_wp2_with fail
    by_cases h0 : 0 < xs.length
    · refine wp_loop_rounds 1 ?_
      rw [rounds_succ]
      go_wp2_with (go_at_call 65; refine HC1.out.mono ?_; rintro e w2 ⟨rfl, hb2⟩; have HB2 := hide hb2; clear hb2)
      go_ret
      exact ⟨_, rfl, by rw [HR.out]; exact HO.out.onlyBelow HB2.out, ((Below.refl _ w).alloc (Nat.le_refl _) _).trans (HB2.out.mono (by simp))⟩
    · refine wp_loop_rounds 1 ?_
      rw [rounds_succ]
      go_wp2_with fail
      go_ret
      exact ⟨_, rfl, by rw [HR.out]; exact HO.out, (Below.refl _ w).alloc (Nat.le_refl _) _⟩
  | true =>
    have HR := hide (show doneR xs = doneL xs by unfold doneR; rw [hv]; rfl)
    rw [hv] at HC
    have h6 := hide (histV_parts hv).1
    clear hv
    go_enter Tryz.func78, Tryz.ntmps78
    go_wp2_with fail
    go_loopw [3, 4] (fun v i wr => ∃ k : Nat, k ≤ xs.length ∧ i = .int .i64 k ∧ Hid (Own tInt 3 wr (fun b => w.heap.size ≤ b ∧ Old wr b) (doneI xs k) v) ∧ Below w.heap.size w wr) (fun _ i _ => xs.length - (intOf i).toNat)
    case atStart => exact ⟨0, Nat.zero_le _, rfl, Own.empty w (fun b => w.heap.size ≤ b) (Nat.le_refl _), (Below.refl _ w).alloc (Nat.le_refl _) _⟩
    case round =>
      obtain ⟨k, hk, rfl, hO, hb⟩ := hrel
      by_cases hlt : k < xs.length
      · have HC1 := hide (HC.out wr hb)
        have HS := hide (doneI_succ xs k hlt)
        have hl := doneI_len xs k
        have HB := hide hb
        have hd : decide ((k : Int) < (xs.length : Int)) = true := by simpa using hlt
        obtain ⟨b, off, A2, c2, hA2, _, _, _, _, _, _, _⟩ := at_Txn HA.out hb hlt
        subst hA2
        cases hdn : xs[k].Done with
        | false =>
          rw [hdn] at HS
          simp only [Bool.false_eq_true, if_false, List.append_nil] at HS
          have Hdn := hide hdn
          clear hdn
          go_wp2_with (go_at_call 65; refine HC1.out.mono ?_; rintro e w2 ⟨rfl, hb2⟩; have HB2 := hide (HB.out.trans (hb2.mono HB.out.size)); have HO2 := hide (hO.out.onlyBelow hb2); obtain ⟨b', off', A3, c3, hbe, hbS, d0, d1, d3, hj1, hj2, hj3⟩ := at_Txn HA.out HB2.out hlt; obtain ⟨rfl, rfl⟩ := (show b = b' ∧ off = off' by simpa using hbe); rw [Hdn.out] at d3; clear hb2 hbe hj3 hj1 hj2 d0 d1)
          go_roundw
          case rel => exact ⟨k + 1, by omega, by go_num, by rw [HS.out]; exact HO2.out, HB2.out⟩
          case measure => simp [intOf]; omega
        | true =>
          rw [hdn] at HS
          simp only [if_true] at HS
          have Hdn := hide hdn
          clear hdn
          go_wp2_with (first | (go_at_call 65; refine HC1.out.mono ?_; rintro e w2 ⟨rfl, hb2⟩; have HB2 := hide (HB.out.trans (hb2.mono HB.out.size)); have HO2 := hide (hO.out.onlyBelow hb2); obtain ⟨b', off', A3, c3, hbe, hbS, d0, d1, d3, hj1, hj2, hj3⟩ := at_Txn HA.out HB2.out hlt; obtain ⟨rfl, rfl⟩ := (show b = b' ∧ off = off' by simpa using hbe); rw [Hdn.out] at d3; clear hb2 hbe hj3 hj1 hj2 d0 d1) | (at_builtin; refine wpList_put tInt rfl (.tmp 21) (.tmp 23) 30 rfl 3 i0 _ 8 Tryz.underlying30 hi hz0 hz1 hz2 rfl (by decide) (fun b => w.heap.size ≤ b) (fun _ => False) (doneI xs k) (k : Int) _ _ rfl HO2.out _ rfl rfl (fun _ h => h.elim) (fun b hb => Nat.le_trans HB2.out.size hb) (by have := h6.out; simp only [maxLen]; omega) (by have := h6.out; omega) ?_; intro v3 w3 hO_ hK_; have HO3 := hide hO_; have HK3 := hide hK_; clear hO_ hK_))
          go_roundw
          case rel => exact ⟨k + 1, by omega, by go_num, by rw [HS.out]; exact HO3.out, below_only HB2.out HK3.out HB2.out.size (fun _ h => h)⟩
          case measure => simp [intOf]; omega
      · obtain rfl : k = xs.length := by omega
        have hd : decide (((xs.length : Nat) : Int) < (xs.length : Int)) = false := by simp
        have HO1 := hide (show Own tInt 3 wr (fun b => w.heap.size ≤ b ∧ Old wr b) (doneL xs) _ from hO.out)
        clear hO
        go_wp2_with fail
        go_ret
        exact ⟨_, rfl, by rw [HR.out]; exact HO1.out, hb⟩
set_option maxRecDepth 10000 in
set_option maxHeartbeats 1000000 in
theorem implDone (xs : List Txn) (A : Option Addr) (c : Nat) (w : World) (hm : xs.length ≤ 1048576) (hA : Row tTxn w (Old w) A xs) :
    Calls Tryz.prog 52 #[.slice A xs.length c] w fun e w' => ∃ v, e = .returned v ∧ Own tInt 3 w' (New w w') (doneL xs) v ∧ Below w.heap.size w w' := by
  obtain ⟨i0, hi, hz0, hz1, hz2⟩ := info_parts infoInt_
  have HA := hide hA
  have hmk : ∀ W : World, (Instr.makeSlice 30 (.int .i64 0) (.int .i64 (xs.length : Int))).run Tryz.prog W = .ok (.slice (some ⟨W.heap.size, 0, none⟩) 0 xs.length) (W.alloc (.cells (madeCells (Value.cells (.int .i64 0)) (xs.length * 1)) 3)) := fun W => by
    have h := run_make_rowN (P := Tryz.prog) 30 3 i0 _ Tryz.underlying30 hi hz0 .i64 .i64 0 xs.length (Nat.zero_le _) (by rw [hz2]; omega) (by omega) W
    rw [hz1] at h
    exact h
  have hq : xs.length ≤ 9223372036854775807 := by omega
  have HO0 := hide (Own.made (T := tInt) (e := 3) w (S := fun b => w.heap.size ≤ b ∧ Old (w.alloc (.cells (madeCells #[.int .i64 0] xs.length) 3)) b) (madeCells #[.int .i64 0] xs.length) xs.length (by rw [size_madeCells]; show xs.length = xs.length * 1; omega) (by simp only [maxLen]; omega) ⟨Nat.le_refl _, by simp [Old]⟩)
  clear hA
  go_enter Tryz.func52, Tryz.ntmps52
  go_wp2
  clear hmk
  go_loopw [3, 4, 5, 11] (fun v _ _ i wr => ∃ k : Nat, k ≤ xs.length ∧ i = .int .i64 k ∧ Hid (Own tInt 3 wr (fun b => w.heap.size ≤ b ∧ Old wr b) (doneI xs k) v) ∧ Below w.heap.size w wr) (fun _ _ _ i _ => xs.length - (intOf i).toNat)
  case atStart => exact ⟨0, Nat.zero_le _, rfl, HO0.out, (Below.refl _ w).alloc (Nat.le_refl _) _⟩
  case round =>
    obtain ⟨k, hk, rfl, hO, hb⟩ := hrel
    clear HO0
    by_cases hlt : k < xs.length
    · obtain ⟨b, off, A3, c3, rfl, hbS, d0, d1, d3, hj1, hj2, hj3⟩ := at_Txn HA.out hb hlt
      have HS := hide (doneI_succ xs k hlt)
      have hl := doneI_len xs k
      have HB := hide hb
      have HO1 := hide (hO.out.onlyBelow ((Below.refl _ wr).alloc (Nat.le_refl _) (.cells #[.int .i64 xs[k].Session, .slice A3 xs[k].Ops.length c3, .bool xs[k].Done] 38)))
      clear hj3 hO
      go_upto_region 5 with (fail)
      generalize hW : wr.alloc _ = W at HO1 ⊢
      have hBk : Blk W wr.heap.size 38 #[.int .i64 xs[k].Session, .slice A3 xs[k].Ops.length c3, .bool xs[k].Done] := by rw [← hW]; exact Blk.new wr _ _
      have HBW := hide (show Below w.heap.size w W by rw [← hW]; exact HB.out.alloc HB.out.size _)
      have hc2 := hBk.cell 2
      simp only [List.getElem?_toArray, List.getElem?_cons_zero, List.getElem?_cons_succ] at hc2
      clear hW hBk d0 d1 d3
      cases hdn : xs[k].Done with
      | false =>
        rw [hdn] at HS hc2
        simp only [Bool.false_eq_true, if_false, List.append_nil] at HS
        clear hdn
        go_wp2_with fail
        go_roundw
        case rel => exact ⟨k + 1, by omega, by go_num, by rw [HS.out]; exact HO1.out, HBW.out⟩
        case measure => simp [intOf]; omega
      | true =>
        rw [hdn] at HS hc2
        simp only [if_true] at HS
        clear hdn
        go_wp2_with (at_builtin; refine wpList_put tInt rfl (.tmp 18) (.tmp 20) 30 rfl 3 i0 _ 8 Tryz.underlying30 hi hz0 hz1 hz2 rfl (by decide) (fun b => w.heap.size ≤ b) (fun _ => False) (doneI xs k) (k : Int) _ _ rfl HO1.out _ rfl rfl (fun _ h => h.elim) (fun b hb => Nat.le_trans HBW.out.size hb) (by simp only [maxLen]; omega) (by omega) ?_; intro v3 w3 hO_ hK_; have HO3 := hide hO_; have HK3 := hide hK_; clear hO_ hK_)
        go_roundw
        case rel => exact ⟨k + 1, by omega, by go_num, by rw [HS.out]; exact HO3.out, below_only HBW.out HK3.out HBW.out.size (fun _ h => h)⟩
        case measure => simp [intOf]; omega
    · obtain rfl : k = xs.length := by omega
      have HO1 := hide (show Own tInt 3 wr (fun b => w.heap.size ≤ b ∧ Old wr b) (doneL xs) _ from hO.out)
      clear hO
      go_wp2_with fail
      go_ret
      exact ⟨_, rfl, HO1.out, hb⟩
end Go.Proofs.YtkcobaimcfggjaaGreatDoor
