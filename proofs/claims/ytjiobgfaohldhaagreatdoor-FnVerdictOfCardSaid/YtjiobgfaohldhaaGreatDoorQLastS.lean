/- The numbers of the committed transactions: DoneTxns of the reference; done of the program. The reference's l4Before, LastWrites, FirstReads, l13Count, l13Has. -/
import Derived.Test.YtjiobgfaohldhaaGreatDoorQHMath
import Derived.Test.YtjiobgfaohldhaaGreatDoorQToB
import Derived.Test.YtjiobgfaohldhaaGreatDoorQBuild
import Derived.Test.YtjiobgfaohldhaaGreatDoorQFirstI
import Derived.Test.YtjiobgfaohldhaaGreatDoorQContC
import Derived.BigQuiet
import Derived.Deep.RegionHeld3
namespace Go.Proofs.YtjiobgfaohldhaaGreatDoor
open Go.RowKit
set_option linter.unusedVariables false
set_option linter.unusedSimpArgs false

def doneR (xs : List Txn) : List Int := if histV xs then doneL xs else []
set_option maxRecDepth 10000 in
set_option maxHeartbeats 1000000 in
theorem specDoneTxns (xs : List Txn) (A : Option Addr) (c : Nat) (w : World) (hm : xs.length ≤ maxLen) (ht : opsN xs ≤ 1048576) (hA : Row tTxn w (Old w) A xs) :
    Calls Tryz.prog 82 #[.slice A xs.length c] w fun e w' => ∃ v, e = .returned v ∧ Own tInt 3 w' (New w w') (doneR xs) v ∧ Below w.heap.size w w' := by
  obtain ⟨i0, hi, hz0, hz1, hz2⟩ := info_parts infoInt_
  have HC := hide (fun (W : World) (hb : Below w.heap.size w W) => specHistoryValid xs A c W hm (hA.old hb) ht)
  have HA := hide hA
  have hq : xs.length ≤ 9223372036854775807 := by simpa [maxLen] using hm
  clear hA hm ht
  cases hv : histV xs with
  | false =>
    have HR := hide (show doneR xs = [] by unfold doneR; rw [hv]; rfl)
    rw [hv] at HC
    have HC1 := hide (HC.out (w.alloc (.cells #[] 3)) ((Below.refl _ w).alloc (Nat.le_refl _) _))
    have HO := hide (Own.empty (T := tInt) (e := 3) w (fun b => w.heap.size ≤ b) (Nat.le_refl _))
    clear hv HC
    go_enter Tryz.func82, Tryz.ntmps82
    go_wp2_with fail
    by_cases h0 : 0 < xs.length
    · refine wp_loop_rounds 1 ?_
      rw [rounds_succ]
      go_wp2_with (go_at_call 53; refine HC1.out.mono ?_; rintro e w2 ⟨rfl, hb2⟩; have HB2 := hide hb2; clear hb2)
      go_ret
      exact ⟨_, rfl, by rw [HR.out]; exact HO.out.onlyBelow HB2.out, ((Below.refl _ w).alloc (Nat.le_refl _) _).trans (HB2.out.mono (by simp))⟩
    · refine wp_loop_rounds 1 ?_
      rw [rounds_succ]
      go_wp2_with fail
      go_ret
      exact ⟨_, rfl, by rw [HR.out]; exact HO.out, (Below.refl _ w).alloc (Nat.le_refl _) _⟩
  | true =>
    have HR := hide (show doneR xs = doneL xs by unfold doneR; rw [hv]; rfl)
    rw [hv] at HC
    have h6 := hide (histV_parts hv).1
    clear hv
    go_enter Tryz.func82, Tryz.ntmps82
    go_wp2_with fail
    go_loopw [3, 4] (fun v i wr => ∃ k : Nat, k ≤ xs.length ∧ i = .int .i64 k ∧ Hid (Own tInt 3 wr (fun b => w.heap.size ≤ b ∧ Old wr b) (doneI xs k) v) ∧ Below w.heap.size w wr) (fun _ i _ => xs.length - (intOf i).toNat)
    case atStart => exact ⟨0, Nat.zero_le _, rfl, Own.empty w (fun b => w.heap.size ≤ b) (Nat.le_refl _), (Below.refl _ w).alloc (Nat.le_refl _) _⟩
    case round =>
      obtain ⟨k, hk, rfl, hO, hb⟩ := hrel
      by_cases hlt : k < xs.length
      · have HC1 := hide (HC.out wr hb)
        have HS := hide (doneI_succ xs k hlt)
        have hl := doneI_len xs k
        have HB := hide hb
        have hd : decide ((k : Int) < (xs.length : Int)) = true := by simpa using hlt
        obtain ⟨b, off, A2, c2, hA2, _, _, _, _, _, _, _⟩ := at_Txn HA.out hb hlt
        subst hA2
        cases hdn : xs[k].Done with
        | false =>
          rw [hdn] at HS
          simp only [Bool.false_eq_true, if_false, List.append_nil] at HS
          have Hdn := hide hdn
          clear hdn
          go_wp2_with (go_at_call 53; refine HC1.out.mono ?_; rintro e w2 ⟨rfl, hb2⟩; have HB2 := hide (HB.out.trans (hb2.mono HB.out.size)); have HO2 := hide (hO.out.onlyBelow hb2); obtain ⟨b', off', A3, c3, hbe, hbS, d0, d1, d3, hj1, hj2, hj3⟩ := at_Txn HA.out HB2.out hlt; obtain ⟨rfl, rfl⟩ := (show b = b' ∧ off = off' by simpa using hbe); rw [Hdn.out] at d3; clear hb2 hbe hj3 hj1 hj2 d0 d1)
          go_roundw
          case rel => exact ⟨k + 1, by omega, by go_num, by rw [HS.out]; exact HO2.out, HB2.out⟩
          case measure => simp [intOf]; omega
        | true =>
          rw [hdn] at HS
          simp only [if_true] at HS
          have Hdn := hide hdn
          clear hdn
          go_wp2_with (first | (go_at_call 53; refine HC1.out.mono ?_; rintro e w2 ⟨rfl, hb2⟩; have HB2 := hide (HB.out.trans (hb2.mono HB.out.size)); have HO2 := hide (hO.out.onlyBelow hb2); obtain ⟨b', off', A3, c3, hbe, hbS, d0, d1, d3, hj1, hj2, hj3⟩ := at_Txn HA.out HB2.out hlt; obtain ⟨rfl, rfl⟩ := (show b = b' ∧ off = off' by simpa using hbe); rw [Hdn.out] at d3; clear hb2 hbe hj3 hj1 hj2 d0 d1) | (at_builtin; refine wpList_put tInt rfl (.tmp 21) (.tmp 23) 27 rfl 3 i0 _ 8 Tryz.underlying27 hi hz0 hz1 hz2 rfl (by decide) (fun b => w.heap.size ≤ b) (fun _ => False) (doneI xs k) (k : Int) _ _ rfl HO2.out _ rfl rfl (fun _ h => h.elim) (fun b hb => Nat.le_trans HB2.out.size hb) (by have := h6.out; simp only [maxLen]; omega) (by have := h6.out; omega) ?_; intro v3 w3 hO_ hK_; have HO3 := hide hO_; have HK3 := hide hK_; clear hO_ hK_))
          go_roundw
          case rel => exact ⟨k + 1, by omega, by go_num, by rw [HS.out]; exact HO3.out, below_only HB2.out HK3.out HB2.out.size (fun _ h => h)⟩
          case measure => simp [intOf]; omega
      · obtain rfl : k = xs.length := by omega
        have hd : decide (((xs.length : Nat) : Int) < (xs.length : Int)) = false := by simp
        have HO1 := hide (show Own tInt 3 wr (fun b => w.heap.size ≤ b ∧ Old wr b) (doneL xs) _ from hO.out)
        clear hO
        go_wp2_with fail
        go_ret
        exact ⟨_, rfl, by rw [HR.out]; exact HO1.out, hb⟩
set_option maxRecDepth 10000 in
set_option maxHeartbeats 1000000 in
theorem implDone (xs : List Txn) (A : Option Addr) (c : Nat) (w : World) (hm : xs.length ≤ 1048576) (hA : Row tTxn w (Old w) A xs) :
    Calls Tryz.prog 72 #[.slice A xs.length c] w fun e w' => ∃ v, e = .returned v ∧ Own tInt 3 w' (New w w') (doneL xs) v ∧ Below w.heap.size w w' := by
  obtain ⟨i0, hi, hz0, hz1, hz2⟩ := info_parts infoInt_
  have HA := hide hA
  have hmk : ∀ W : World, (Instr.makeSlice 27 (.int .i64 0) (.int .i64 (xs.length : Int))).run Tryz.prog W = .ok (.slice (some ⟨W.heap.size, 0, none⟩) 0 xs.length) (W.alloc (.cells (madeCells (Value.cells (.int .i64 0)) (xs.length * 1)) 3)) := fun W => by
    have h := run_make_rowN (P := Tryz.prog) 27 3 i0 _ Tryz.underlying27 hi hz0 .i64 .i64 0 xs.length (Nat.zero_le _) (by rw [hz2]; omega) (by omega) W
    rw [hz1] at h
    exact h
  have hq : xs.length ≤ 9223372036854775807 := by omega
  have HO0 := hide (Own.made (T := tInt) (e := 3) w (S := fun b => w.heap.size ≤ b ∧ Old (w.alloc (.cells (madeCells #[.int .i64 0] xs.length) 3)) b) (madeCells #[.int .i64 0] xs.length) xs.length (by rw [size_madeCells]; show xs.length = xs.length * 1; omega) (by simp only [maxLen]; omega) ⟨Nat.le_refl _, by simp [Old]⟩)
  clear hA
  go_enter Tryz.func72, Tryz.ntmps72
  go_wp2
  clear hmk
  go_loopw [3, 4, 5, 11] (fun v _ _ i wr => ∃ k : Nat, k ≤ xs.length ∧ i = .int .i64 k ∧ Hid (Own tInt 3 wr (fun b => w.heap.size ≤ b ∧ Old wr b) (doneI xs k) v) ∧ Below w.heap.size w wr) (fun _ _ _ i _ => xs.length - (intOf i).toNat)
  case atStart => exact ⟨0, Nat.zero_le _, rfl, HO0.out, (Below.refl _ w).alloc (Nat.le_refl _) _⟩
  case round =>
    obtain ⟨k, hk, rfl, hO, hb⟩ := hrel
    clear HO0
    by_cases hlt : k < xs.length
    · obtain ⟨b, off, A3, c3, rfl, hbS, d0, d1, d3, hj1, hj2, hj3⟩ := at_Txn HA.out hb hlt
      have HS := hide (doneI_succ xs k hlt)
      have hl := doneI_len xs k
      have HB := hide hb
      have HO1 := hide (hO.out.onlyBelow ((Below.refl _ wr).alloc (Nat.le_refl _) (.cells #[.int .i64 xs[k].Session, .slice A3 xs[k].Ops.length c3, .bool xs[k].Done] 70)))
      clear hj3 hO
      go_upto_region 5 with (fail)
      generalize hW : wr.alloc _ = W at HO1 ⊢
      have hBk : Blk W wr.heap.size 70 #[.int .i64 xs[k].Session, .slice A3 xs[k].Ops.length c3, .bool xs[k].Done] := by rw [← hW]; exact Blk.new wr _ _
      have HBW := hide (show Below w.heap.size w W by rw [← hW]; exact HB.out.alloc HB.out.size _)
      have hc2 := hBk.cell 2
      simp only [List.getElem?_toArray, List.getElem?_cons_zero, List.getElem?_cons_succ] at hc2
      clear hW hBk d0 d1 d3
      cases hdn : xs[k].Done with
      | false =>
        rw [hdn] at HS hc2
        simp only [Bool.false_eq_true, if_false, List.append_nil] at HS
        clear hdn
        go_wp2_with fail
        go_roundw
        case rel => exact ⟨k + 1, by omega, by go_num, by rw [HS.out]; exact HO1.out, HBW.out⟩
        case measure => simp [intOf]; omega
      | true =>
        rw [hdn] at HS hc2
        simp only [if_true] at HS
        clear hdn
        go_wp2_with (at_builtin; refine wpList_put tInt rfl (.tmp 18) (.tmp 20) 27 rfl 3 i0 _ 8 Tryz.underlying27 hi hz0 hz1 hz2 rfl (by decide) (fun b => w.heap.size ≤ b) (fun _ => False) (doneI xs k) (k : Int) _ _ rfl HO1.out _ rfl rfl (fun _ h => h.elim) (fun b hb => Nat.le_trans HBW.out.size hb) (by simp only [maxLen]; omega) (by omega) ?_; intro v3 w3 hO_ hK_; have HO3 := hide hO_; have HK3 := hide hK_; clear hO_ hK_)
        go_roundw
        case rel => exact ⟨k + 1, by omega, by go_num, by rw [HS.out]; exact HO3.out, below_only HBW.out HK3.out HBW.out.size (fun _ h => h)⟩
        case measure => simp [intOf]; omega
    · obtain rfl : k = xs.length := by omega
      have HO1 := hide (show Own tInt 3 wr (fun b => w.heap.size ≤ b ∧ Old wr b) (doneL xs) _ from hO.out)
      clear hO
      go_wp2_with fail
      go_ret
      exact ⟨_, rfl, HO1.out, hb⟩
end Go.Proofs.YtjiobgfaohldhaaGreatDoor
namespace Go.Proofs.YtjiobgfaohldhaaGreatDoor
open Go.RowKit Go.Maps
set_option linter.unusedVariables false
set_option linter.unusedSimpArgs false

theorem beforeV_none {ops : List Op} {key : Int} (h : lastOn ops key = none) : beforeV ops key = -1 := by unfold beforeV; rw [h]; rfl
theorem beforeV_some {ops : List Op} {key : Int} {o : Op} (h : lastOn ops key = some o) : beforeV ops key = o.Value := by unfold beforeV; rw [h]; rfl
set_option maxHeartbeats 1000000 in
theorem l4Before_any (t : Txn) (n : Nat) (key : Int) (A : Option Addr) (c : Nat) (w : World) (hm : t.Ops.length ≤ maxLen) (hn : n ≤ t.Ops.length) (hA : Row tOp w (Old w) A t.Ops) :
    Calls Tryz.prog 129 #[.agg #[.int .i64 t.Session, .slice A t.Ops.length c, .bool t.Done], .int .i64 n, .int .i64 key] w fun e w' => e = .returned (.int .i64 (beforeV (t.Ops.take n) key)) ∧ Below w.heap.size w w' := by
  unfold maxLen at hm
  have HA := hide hA
  clear hA
  have HB0 := hide ((Below.refl _ w).alloc (Nat.le_refl _) (.cells #[.int .i64 t.Session, .slice A t.Ops.length c, .bool t.Done] 70))
  have HX0 := hide (Blk.new w 70 #[.int .i64 t.Session, .slice A t.Ops.length c, .bool t.Done])
  go_enter Tryz.func129, Tryz.ntmps129
  go_wp2
  go_loopw [7] (fun i wr => ∃ (l : Nat) (x : Int), l ≤ n ∧ i = .int .i64 x ∧ x = l - 1 ∧ Hid (lastOn (t.Ops.take n) key = lastOn (t.Ops.take l) key) ∧ Hid (Blk wr w.heap.size 70 #[.int .i64 t.Session, .slice A t.Ops.length c, .bool t.Done]) ∧ Hid (Below w.heap.size w wr)) (fun i _ => (intOf i + 1).toNat)
  case atStart => exact ⟨n, (n : Int) - 1, Nat.le_refl _, by go_num, rfl, rfl, HX0.out, HB0.out⟩
  case round =>
    obtain ⟨l, x, hl, rfl, hx, hL, hX, hb⟩ := hrel
    clear HB0 HX0
    have HX := hide hX.out; have HB := hide hb.out; have HL := hide hL.out
    have c1 := hX.out.cell 1
    simp only [List.getElem?_toArray, List.getElem?_cons_zero, List.getElem?_cons_succ] at c1
    have hz := hX.out.lt
    clear hL hX hb
    rcases l with _ | l
    · obtain rfl : x = -1 := by omega
      have HQ := hide (show beforeV (t.Ops.take n) key = -1 from beforeV_none (by rw [HL.out]; rfl))
      clear hx
      go_wp2
      go_ret
      exact ⟨by rw [HQ.out]; rfl, HB.out⟩
    · obtain rfl : x = (l : Int) := by omega
      have hlt : l < t.Ops.length := by omega
      obtain ⟨b, off, rfl, hbS, d0, d1, d2⟩ := at_Op HA.out HB.out hlt
      have HS := hide (lastOn_snoc t.Ops l hlt key)
      clear hx
      cases hk : (t.Ops[l].Key == key) with
      | true =>
        rw [hk] at HS
        have HQ := hide (show beforeV (t.Ops.take n) key = t.Ops[l].Value from beforeV_some (by rw [HL.out, HS.out]; rfl))
        clear HS
        go_wp2
        go_ret
        exact ⟨by rw [HQ.out]; rfl, HB.out⟩
      | false =>
        rw [hk] at HS
        have HL2 := hide (show lastOn (t.Ops.take n) key = lastOn (t.Ops.take l) key by rw [HL.out, HS.out]; rfl)
        clear HS
        go_wp2
        go_roundw
        case rel => exact ⟨l, (l : Int) - 1, by omega, by go_num, rfl, HL2.out, HX.out, HB.out⟩
        case measure => simp [intOf]
set_option maxRecDepth 10000 in
set_option maxHeartbeats 2000000 in
theorem specLastWrites (t : Txn) (A : Option Addr) (c : Nat) (w : World) (hv : txnOk t = true) (hA : Row tOp w (Old w) A t.Ops) :
    Calls Tryz.prog 106 #[.agg #[.int .i64 t.Session, .slice A t.Ops.length c, .bool t.Done]] w fun e w' => ∃ v, e = .returned v ∧ Own tOp 50 w' (New w w') (lastWs t.Ops) v ∧ Below w.heap.size w w' := by
  obtain ⟨i0, hi, hz0, hz1, hz2⟩ := info_parts infoOp_
  have h6 := (txnOk_parts hv).2
  have HTV := hide (fun (W : World) (hb : Below w.heap.size w W) => specTxnValid t A c W (by simp only [maxLen]; omega) (hA.old hb))
  rw [hv] at HTV
  have HA := hide hA
  clear hA hv
  have hq : t.Ops.length ≤ 9223372036854775807 := by omega
  obtain ⟨w1, hw1⟩ : ∃ w1, w1 = w.alloc (.cells #[.int .i64 t.Session, .slice A t.Ops.length c, .bool t.Done] 70) := ⟨_, rfl⟩
  have HX1 := hide (show Blk w1 w.heap.size 70 #[.int .i64 t.Session, .slice A t.Ops.length c, .bool t.Done] by rw [hw1]; exact Blk.new w _ _)
  have HB1 := hide (show Below w.heap.size w w1 by rw [hw1]; exact (Below.refl _ w).alloc (Nat.le_refl _) _)
  have HO1 := hide (Own.empty (T := tOp) (e := 50) w1 (fun b => w1.heap.size ≤ b) (Nat.le_refl _))
  have hs1 : w1.heap.size = w.heap.size + 1 := by rw [hw1]; simp
  go_enter Tryz.func106, Tryz.ntmps106
  go_wp2
  simp only [← hw1]
  generalize hW : w1.alloc _ = W at HO1 ⊢
  have HX2 := hide (show Blk W w.heap.size _ _ by rw [← hW]; exact HX1.out.alloc _)
  have HB2 := hide (show Below w.heap.size w W by rw [← hW]; exact HB1.out.alloc (by omega) _)
  clear hW HX1 HB1 hw1
  go_loopw [3, 4, 5] (fun v i _ wr => ∃ k : Nat, k ≤ 3 ∧ i = .int .i64 k ∧ Hid (Own tOp 50 wr (fun b => w1.heap.size ≤ b ∧ Old wr b) (lastWk t.Ops k) v) ∧ Hid (Blk wr w.heap.size 70 #[.int .i64 t.Session, .slice A t.Ops.length c, .bool t.Done]) ∧ Hid (Below w.heap.size w wr)) (fun _ i _ _ => 3 - (intOf i).toNat)
  case atStart => exact ⟨0, by omega, rfl, by rw [← hs1]; exact HO1.out, HX2.out, HB2.out⟩
  case round =>
    obtain ⟨k, hk, rfl, hO, hX, hb⟩ := hrel
    clear HX2 HB2 HO1
    have HX := hide hX.out; have HB := hide hb.out; have HO := hide hO.out
    have c0 := hX.out.cell 0; have c1 := hX.out.cell 1; have c2 := hX.out.cell 2
    simp only [List.getElem?_toArray, List.getElem?_cons_zero, List.getElem?_cons_succ] at c0 c1 c2
    have hz := hX.out.lt
    have hkl := lastWk_len t.Ops k
    clear hX hb hO
    by_cases hlt : k < 3
    · have hk3 : decide ((k : Int) ≤ 2) = true := decide_eq_true (by omega)
      go_wp2_with (go_at_call 103; refine (HTV.out _ HB.out).mono ?_; rintro e w2 ⟨rfl, hb2⟩; have HB3 := hide (HB.out.trans (hb2.mono HB.out.size)); have hX3 := HX.out.below hb2 HX.out.lt; have HX3 := hide hX3; have d0 := hX3.cell 0; have d1 := hX3.cell 1; have d2 := hX3.cell 2; simp only [List.getElem?_toArray, List.getElem?_cons_zero, List.getElem?_cons_succ] at d0 d1 d2; have hz3 := hX3.lt; have HO3 := hide (HO.out.onlyBelow hb2); clear hb2 hX3 c0 c1 c2)
      go_loopw [3, 5] (fun v j wr2 => v = u3 ∧ ∃ (l : Nat) (x : Int), l ≤ t.Ops.length ∧ j = .int .i64 x ∧ x = l - 1 ∧ Hid (lastW t.Ops k = lastW (t.Ops.take l) k) ∧ Hid (Below w2.heap.size w2 wr2)) (fun _ j _ => (intOf j + 1).toNat)
      case atStart => exact ⟨rfl, t.Ops.length, (t.Ops.length : Int) - 1, Nat.le_refl _, by go_num, rfl, by rw [List.take_length]; rfl, Below.refl _ _⟩
      case round =>
        obtain ⟨rfl, l, x, hl, rfl, hx, hL, hbw⟩ := hrel
        have HL := hide hL.out
        have hX4 := HX3.out.below hbw.out HX3.out.lt
        have HX4 := hide hX4
        have HO4 := hide (HO3.out.onlyBelow hbw.out)
        have HB4 := hide (HB3.out.trans (hbw.out.mono HB3.out.size))
        have e0 := hX4.cell 0; have e1 := hX4.cell 1; have e2 := hX4.cell 2
        simp only [List.getElem?_toArray, List.getElem?_cons_zero, List.getElem?_cons_succ] at e0 e1 e2
        have hz4 := hX4.lt
        clear hX4 hL d0 d1 d2
        rcases l with _ | l
        · obtain rfl : x = -1 := by omega
          have HS := hide (show lastWk t.Ops (k + 1) = lastWk t.Ops k by rw [lastWk, HL.out]; simp [lastW, Option.toList])
          clear hx
          go_wp2_with fail
          go_roundw
          case rel => exact ⟨k + 1, by omega, by go_num, by rw [HS.out]; exact HO4.out, HX4.out, HB4.out⟩
          case measure => simp [intOf]; omega
        · obtain rfl : x = (l : Int) := by omega
          have hll : l < t.Ops.length := by omega
          obtain ⟨b, off, rfl, hbS, d0, d1, d2⟩ := at_Op HA.out HB4.out hll
          have HLs := hide (lastW_snoc t.Ops l hll k)
          clear hx
          cases hkd : (t.Ops[l].Kind == 2) with
          | false =>
            have HL2 := hide (show lastW t.Ops k = lastW (t.Ops.take l) k by rw [HL.out, HLs.out, hkd]; rfl)
            clear HLs
            go_wp2_with fail
            go_roundw
            case rel => exact ⟨rfl, l, (l : Int) - 1, by omega, by go_num, rfl, HL2.out, hbw.out⟩
            case measure => simp [intOf]
          | true =>
            cases hky : (t.Ops[l].Key == (k : Int)) with
            | false =>
              have HL2 := hide (show lastW t.Ops k = lastW (t.Ops.take l) k by rw [HL.out, HLs.out, hkd, hky]; rfl)
              clear HLs
              go_wp2_with fail
              go_roundw
              case rel => exact ⟨rfl, l, (l : Int) - 1, by omega, by go_num, rfl, HL2.out, hbw.out⟩
              case measure => simp [intOf]
            | true =>
              have HS := hide (show lastWk t.Ops (k + 1) = lastWk t.Ops k ++ [t.Ops[l]] by rw [lastWk, HL.out, HLs.out, hkd, hky]; rfl)
              clear HLs
              go_wp2_with (at_builtin; refine wpList_put tOp rfl (.tmp 40) (.tmp 46) 68 rfl 50 i0 _ 24 Tryz.underlying68 hi hz0 hz1 (by assumption) rfl (by decide) (fun b => w1.heap.size ≤ b) (fun _ => False) (lastWk t.Ops k) t.Ops[l] [.int .i64 t.Ops[l].Kind, .int .i64 t.Ops[l].Key, .int .i64 t.Ops[l].Value] _ rfl HO4.out 1 rfl rfl (fun _ h => h.elim) (fun b hb => by omega) (by simp only [maxLen]; omega) (by omega) ?_; intro v5 w5 hO_ hK_; have HO5 := hide hO_; have HK5 := hide hK_; clear hO_ hK_)
              go_roundw
              case rel => exact ⟨k + 1, by omega, by go_num, by rw [HS.out]; exact HO5.out, HX4.out.of (HK5.out.block _ HX4.out.lt (by omega)), below_only HB4.out HK5.out HB4.out.size (fun i h => by omega)⟩
              case measure => simp [intOf]; omega
    · obtain rfl : k = 3 := by omega
      have HO1 := hide (show Own tOp 50 wr (fun b => w1.heap.size ≤ b ∧ Old wr b) (lastWs t.Ops) u3 from by rw [← lastWk_3]; exact HO.out)
      clear HO
      go_wp2_with fail
      go_ret
      exact ⟨_, rfl, HO1.out.mono (fun b h => ⟨by have := h.1; omega, h.2⟩) (fun _ _ => rfl), HB.out⟩
theorem fresh_neg {ops : List Op} {k : Nat} (hok : ∀ o ∈ ops, opOk o = true) (key : Int) : decide (beforeV (ops.take k) key < 0) = (lastOn (ops.take k) key).isNone := by
  cases h : lastOn (ops.take k) key with
  | none => rw [beforeV_none h]; rfl
  | some o =>
    rw [beforeV_some h]
    have := (opOk_parts (hok o (List.mem_of_mem_take (lastOn_some h).1))).2.2.1
    simp; omega
set_option maxRecDepth 10000 in
set_option maxHeartbeats 2000000 in
theorem specFirstReads (t : Txn) (A : Option Addr) (c : Nat) (w : World) (hv : txnOk t = true) (hA : Row tOp w (Old w) A t.Ops) :
    Calls Tryz.prog 85 #[.agg #[.int .i64 t.Session, .slice A t.Ops.length c, .bool t.Done]] w fun e w' => ∃ v, e = .returned v ∧ Own tOp 50 w' (New w w') (firstR t.Ops) v ∧ Below w.heap.size w w' := by
  obtain ⟨i0, hi, hz0, hz1, hz2⟩ := info_parts infoOp_
  have h6 := (txnOk_parts hv).2
  have HFn := hide (fun (k : Nat) (key : Int) => fresh_neg (ops := t.Ops) (k := k) (txnOk_parts hv).1 key)
  have HTV := hide (fun (W : World) (hb : Below w.heap.size w W) => specTxnValid t A c W (by simp only [maxLen]; omega) (hA.old hb))
  rw [hv] at HTV
  have HBf := hide (fun (W : World) (n : Nat) (key : Int) (hn : n ≤ t.Ops.length) (hb : Below w.heap.size w W) => l4Before_any t n key A c W (by simp only [maxLen]; omega) hn (hA.old hb))
  have HA := hide hA
  clear hA hv
  have hq : t.Ops.length ≤ 9223372036854775807 := by omega
  obtain ⟨w1, hw1⟩ : ∃ w1, w1 = w.alloc (.cells #[.int .i64 t.Session, .slice A t.Ops.length c, .bool t.Done] 70) := ⟨_, rfl⟩
  have HX1 := hide (show Blk w1 w.heap.size 70 #[.int .i64 t.Session, .slice A t.Ops.length c, .bool t.Done] by rw [hw1]; exact Blk.new w _ _)
  have HB1 := hide (show Below w.heap.size w w1 by rw [hw1]; exact (Below.refl _ w).alloc (Nat.le_refl _) _)
  have HO1 := hide (Own.empty (T := tOp) (e := 50) w1 (fun b => w1.heap.size ≤ b) (Nat.le_refl _))
  have hs1 : w1.heap.size = w.heap.size + 1 := by rw [hw1]; simp
  go_enter Tryz.func85, Tryz.ntmps85
  go_wp2
  simp only [← hw1]
  generalize hW : w1.alloc _ = W at HO1 ⊢
  have HX2 := hide (show Blk W w.heap.size _ _ by rw [← hW]; exact HX1.out.alloc _)
  have HB2 := hide (show Below w.heap.size w W by rw [← hW]; exact HB1.out.alloc (by omega) _)
  clear hW HX1 HB1 hw1
  go_loopw [3, 4] (fun v i wr => ∃ k : Nat, k ≤ t.Ops.length ∧ i = .int .i64 k ∧ Hid (Own tOp 50 wr (fun b => w1.heap.size ≤ b ∧ Old wr b) (firstRs t.Ops k) v) ∧ Hid (Blk wr w.heap.size 70 #[.int .i64 t.Session, .slice A t.Ops.length c, .bool t.Done]) ∧ Hid (Below w.heap.size w wr)) (fun _ i _ => t.Ops.length - (intOf i).toNat)
  case atStart => exact ⟨0, by omega, rfl, by rw [← hs1]; exact HO1.out, HX2.out, HB2.out⟩
  case round =>
    obtain ⟨k, hk, rfl, hO, hX, hb⟩ := hrel
    clear HX2 HB2 HO1
    have HX := hide hX.out; have HB := hide hb.out; have HO := hide hO.out
    have c0 := hX.out.cell 0; have c1 := hX.out.cell 1; have c2 := hX.out.cell 2
    simp only [List.getElem?_toArray, List.getElem?_cons_zero, List.getElem?_cons_succ] at c0 c1 c2
    have hz := hX.out.lt
    have hkl := firstRs_len t.Ops k
    clear hX hb hO
    by_cases hlt : k < t.Ops.length
    · have hk3 : decide ((k : Int) < (t.Ops.length : Int)) = true := decide_eq_true (by omega)
      have HS := hide (firstRs_succ t.Ops k hlt)
      obtain ⟨b, off, hAe, hbS, _⟩ := at_Op HA.out HB.out hlt
      subst hAe
      go_wp2_with (go_at_call 103; refine (HTV.out _ HB.out).mono ?_; rintro e w2 ⟨rfl, hb2⟩; have HB3 := hide (HB.out.trans (hb2.mono HB.out.size)); have hX3 := HX.out.below hb2 HX.out.lt; have HX3 := hide hX3; have d0 := hX3.cell 0; have d1 := hX3.cell 1; have d2 := hX3.cell 2; simp only [List.getElem?_toArray, List.getElem?_cons_zero, List.getElem?_cons_succ] at d0 d1 d2; have hz3 := hX3.lt; have HO3 := hide (HO.out.onlyBelow hb2); clear hb2 hX3 c0 c1 c2)
      obtain ⟨b', off', hAe', _, g0, g1, g2⟩ := at_Op HA.out HB3.out hlt
      obtain ⟨rfl, rfl⟩ : b = b' ∧ off = off' := by simpa using hAe'
      clear hAe'
      cases hkd : (t.Ops[k].Kind == 1) with
      | false =>
        have HS2 := hide (show firstRs t.Ops (k + 1) = firstRs t.Ops k by rw [HS.out, hkd]; simp)
        clear HS
        go_quiet (fail)
        go_wp2_with fail
        go_roundw
        case rel => exact ⟨k + 1, by omega, by go_num, by rw [HS2.out]; exact HO3.out.mono (fun _ h => h) (fun _ _ => rfl), HX3.out, below_drewN HB3.out _⟩
        case measure => simp [intOf]; omega
      | true =>
        go_still_tail 16, (by kernel_rfl)
        have HB4 := hide (show Below w.heap.size w w2.drew from HB3.out.drew)
        have HX4 := hide (show Blk w2.drew w.heap.size 70 #[.int .i64 t.Session, .slice (some ⟨b, off, none⟩) t.Ops.length c, .bool t.Done] from HX3.out)
        have HO4 := hide (show Own tOp 50 w2.drew (fun b => w1.heap.size ≤ b ∧ Old w2.drew b) (firstRs t.Ops k) u3 from HO3.out.mono (fun _ h => h) (fun _ _ => rfl))
        have HC := hide (HBf.out w2.drew k t.Ops[k].Key (by omega) HB4.out)
        have HN := hide (HFn.out k t.Ops[k].Key)
        change wpList _ _ _ _ _ w2.drew
        generalize w2.drew = w4 at HB4 HX4 HO4 HC ⊢
        clear HB3 HX3 HO3 d0 d1 d2 g0 g1 g2
        cases hnn : (lastOn (t.Ops.take k) t.Ops[k].Key).isNone with
        | false =>
          have HS2 := hide (show firstRs t.Ops (k + 1) = firstRs t.Ops k by rw [HS.out, hnn]; simp)
          have HNb := hide (HN.out.trans hnn)
          clear HS HN
          go_wp2_with (go_at_call 129; refine HC.out.mono ?_; rintro e w5 ⟨rfl, hb5⟩; have hbe : decide (beforeV (List.take k t.Ops) t.Ops[k].Key < 0) = false := HNb.out; have hX5 := HX4.out.below hb5 HX4.out.lt; have HX5 := hide hX5; have HB5 := hide (HB4.out.trans (hb5.mono HB4.out.size)); have HO5 := hide (HO4.out.onlyBelow hb5); obtain ⟨b', off', hAe', _, g0, g1, g2⟩ := at_Op HA.out HB5.out hlt; obtain ⟨rfl, rfl⟩ : b = b' ∧ off = off' := (by simpa using hAe'); clear hAe'; have e0 := hX5.cell 0; have e1 := hX5.cell 1; have e2 := hX5.cell 2; simp only [List.getElem?_toArray, List.getElem?_cons_zero, List.getElem?_cons_succ] at e0 e1 e2; have hz5 := hX5.lt; clear hX5 hb5)
          go_roundw
          case rel => exact ⟨k + 1, by omega, by go_num, by rw [HS2.out]; exact HO5.out, HX5.out, HB5.out⟩
          case measure => simp [intOf]; omega
        | true =>
          have HS2 := hide (show firstRs t.Ops (k + 1) = firstRs t.Ops k ++ [t.Ops[k]] by rw [HS.out, hkd, hnn]; rfl)
          have HNb := hide (HN.out.trans hnn)
          clear HS HN
          go_wp2_with (first | (go_at_call 129; refine HC.out.mono ?_; rintro e w5 ⟨rfl, hb5⟩; have hbe : decide (beforeV (List.take k t.Ops) t.Ops[k].Key < 0) = true := HNb.out; have hX5 := HX4.out.below hb5 HX4.out.lt; have HX5 := hide hX5; have HB5 := hide (HB4.out.trans (hb5.mono HB4.out.size)); have HO5 := hide (HO4.out.onlyBelow hb5); obtain ⟨b', off', hAe', _, g0, g1, g2⟩ := at_Op HA.out HB5.out hlt; obtain ⟨rfl, rfl⟩ : b = b' ∧ off = off' := (by simpa using hAe'); clear hAe'; have e0 := hX5.cell 0; have e1 := hX5.cell 1; have e2 := hX5.cell 2; simp only [List.getElem?_toArray, List.getElem?_cons_zero, List.getElem?_cons_succ] at e0 e1 e2; have hz5 := hX5.lt; clear hX5 hb5) | (at_builtin; refine wpList_put tOp rfl (.tmp 36) (.tmp 42) 68 rfl 50 i0 _ 24 Tryz.underlying68 hi hz0 hz1 (by assumption) rfl (by decide) (fun b => w1.heap.size ≤ b) (fun _ => False) (firstRs t.Ops k) t.Ops[k] [.int .i64 t.Ops[k].Kind, .int .i64 t.Ops[k].Key, .int .i64 t.Ops[k].Value] _ rfl HO5.out 1 rfl rfl (fun _ h => h.elim) (fun b hb => by omega) (by simp only [maxLen]; omega) (by omega) ?_; intro v6 w6 hO_ hK_; have HO6 := hide hO_; have HK6 := hide hK_; clear hO_ hK_))
          go_roundw
          case rel => exact ⟨k + 1, by omega, by go_num, by rw [HS2.out]; exact HO6.out, HX5.out.of (HK6.out.block _ HX5.out.lt (by omega)), below_only HB5.out HK6.out HB5.out.size (fun i h => by omega)⟩
          case measure => simp [intOf]; omega
    · obtain rfl : k = t.Ops.length := by omega
      have HO1 := hide (show Own tOp 50 wr (fun b => w1.heap.size ≤ b ∧ Old wr b) (firstR t.Ops) u3 from HO.out)
      have hkf : decide (((t.Ops.length : Nat) : Int) < (t.Ops.length : Int)) = false := decide_eq_false (by omega)
      clear HO
      go_wp2_with fail
      go_ret
      exact ⟨_, rfl, HO1.out.mono (fun b h => ⟨by have := h.1; omega, h.2⟩) (fun _ _ => rfl), HB.out⟩
end Go.Proofs.YtjiobgfaohldhaaGreatDoor
