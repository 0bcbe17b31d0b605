/- The reference's l4Before, LastWrites, FirstReads, l13Count, l13Has. The values that are installed for a key: what they are, that they differ. The program's Installed, for keys of a valid history. The reference's Installed, for keys of any history. -/
import Derived.Test.YtjiobgfaohldhaaGreatQDone
import Derived.Test.YtjiobgfaohldhaaGreatQContC
import Derived.Test.YtjiobgfaohldhaaGreatQSnapN
import Derived.BigQuiet
import Derived.Deep.RegionHeld3
namespace Go.Proofs.YtjiobgfaohldhaaGreat
open Go.RowKit Go.Maps
set_option linter.unusedVariables false
set_option linter.unusedSimpArgs false

theorem beforeV_none {ops : List Op} {key : Int} (h : lastOn ops key = none) : beforeV ops key = -1 := by unfold beforeV; rw [h]; rfl
theorem beforeV_some {ops : List Op} {key : Int} {o : Op} (h : lastOn ops key = some o) : beforeV ops key = o.Value := by unfold beforeV; rw [h]; rfl
set_option maxHeartbeats 1000000 in
theorem l4Before_any (t : Txn) (n : Nat) (key : Int) (A : Option Addr) (c : Nat) (w : World) (hm : t.Ops.length ≤ maxLen) (hn : n ≤ t.Ops.length) (hA : Row tOp w (Old w) A t.Ops) :
    Calls Tryz.prog 100 #[.agg #[.int .i64 t.Session, .slice A t.Ops.length c, .bool t.Done], .int .i64 n, .int .i64 key] w fun e w' => e = .returned (.int .i64 (beforeV (t.Ops.take n) key)) ∧ Below w.heap.size w w' := by
  unfold maxLen at hm
  have HA := hide hA
  clear hA
  have HB0 := hide ((Below.refl _ w).alloc (Nat.le_refl _) (.cells #[.int .i64 t.Session, .slice A t.Ops.length c, .bool t.Done] 57))
  have HX0 := hide (Blk.new w 57 #[.int .i64 t.Session, .slice A t.Ops.length c, .bool t.Done])
  go_enter Tryz.func100, Tryz.ntmps100
  go_wp2
  go_loopw [7] (fun i wr => ∃ (l : Nat) (x : Int), l ≤ n ∧ i = .int .i64 x ∧ x = l - 1 ∧ Hid (lastOn (t.Ops.take n) key = lastOn (t.Ops.take l) key) ∧ Hid (Blk wr w.heap.size 57 #[.int .i64 t.Session, .slice A t.Ops.length c, .bool t.Done]) ∧ Hid (Below w.heap.size w wr)) (fun i _ => (intOf i + 1).toNat)
  case atStart => exact ⟨n, (n : Int) - 1, Nat.le_refl _, by go_num, rfl, rfl, HX0.out, HB0.out⟩
  case round =>
    obtain ⟨l, x, hl, rfl, hx, hL, hX, hb⟩ := hrel
    clear HB0 HX0
    have HX := hide hX.out; have HB := hide hb.out; have HL := hide hL.out
    have c1 := hX.out.cell 1
    simp only [List.getElem?_toArray, List.getElem?_cons_zero, List.getElem?_cons_succ] at c1
    have hz := hX.out.lt
    clear hL hX hb
    rcases l with _ | l
    · obtain rfl : x = -1 := by omega
      have HQ := hide (show beforeV (t.Ops.take n) key = -1 from beforeV_none (by rw [HL.out]; rfl))
      clear hx
      go_wp2
      go_ret
      exact ⟨by rw [HQ.out]; rfl, HB.out⟩
    · obtain rfl : x = (l : Int) := by omega
      have hlt : l < t.Ops.length := by omega
      obtain ⟨b, off, rfl, hbS, d0, d1, d2⟩ := at_Op HA.out HB.out hlt
      have HS := hide (lastOn_snoc t.Ops l hlt key)
      clear hx
      cases hk : (t.Ops[l].Key == key) with
      | true =>
        rw [hk] at HS
        have HQ := hide (show beforeV (t.Ops.take n) key = t.Ops[l].Value from beforeV_some (by rw [HL.out, HS.out]; rfl))
        clear HS
        go_wp2
        go_ret
        exact ⟨by rw [HQ.out]; rfl, HB.out⟩
      | false =>
        rw [hk] at HS
        have HL2 := hide (show lastOn (t.Ops.take n) key = lastOn (t.Ops.take l) key by rw [HL.out, HS.out]; rfl)
        clear HS
        go_wp2
        go_roundw
        case rel => exact ⟨l, (l : Int) - 1, by omega, by go_num, rfl, HL2.out, HX.out, HB.out⟩
        case measure => simp [intOf]
set_option maxRecDepth 10000 in
set_option maxHeartbeats 2000000 in
theorem specLastWrites (t : Txn) (A : Option Addr) (c : Nat) (w : World) (hv : txnOk t = true) (hA : Row tOp w (Old w) A t.Ops) :
    Calls Tryz.prog 97 #[.agg #[.int .i64 t.Session, .slice A t.Ops.length c, .bool t.Done]] w fun e w' => ∃ v, e = .returned v ∧ Own tOp 82 w' (New w w') (lastWs t.Ops) v ∧ Below w.heap.size w w' := by
  obtain ⟨i0, hi, hz0, hz1, hz2⟩ := info_parts infoOp_
  have h6 := (txnOk_parts hv).2
  have HTV := hide (fun (W : World) (hb : Below w.heap.size w W) => specTxnValid t A c W (by simp only [maxLen]; omega) (hA.old hb))
  rw [hv] at HTV
  have HA := hide hA
  clear hA hv
  have hq : t.Ops.length ≤ 9223372036854775807 := by omega
  obtain ⟨w1, hw1⟩ : ∃ w1, w1 = w.alloc (.cells #[.int .i64 t.Session, .slice A t.Ops.length c, .bool t.Done] 57) := ⟨_, rfl⟩
  have HX1 := hide (show Blk w1 w.heap.size 57 #[.int .i64 t.Session, .slice A t.Ops.length c, .bool t.Done] by rw [hw1]; exact Blk.new w _ _)
  have HB1 := hide (show Below w.heap.size w w1 by rw [hw1]; exact (Below.refl _ w).alloc (Nat.le_refl _) _)
  have HO1 := hide (Own.empty (T := tOp) (e := 82) w1 (fun b => w1.heap.size ≤ b) (Nat.le_refl _))
  have hs1 : w1.heap.size = w.heap.size + 1 := by rw [hw1]; simp
  go_enter Tryz.func97, Tryz.ntmps97
  go_wp2
  simp only [← hw1]
  generalize hW : w1.alloc _ = W at HO1 ⊢
  have HX2 := hide (show Blk W w.heap.size _ _ by rw [← hW]; exact HX1.out.alloc _)
  have HB2 := hide (show Below w.heap.size w W by rw [← hW]; exact HB1.out.alloc (by omega) _)
  clear hW HX1 HB1 hw1
  go_loopw [3, 4, 5] (fun v i _ wr => ∃ k : Nat, k ≤ 3 ∧ i = .int .i64 k ∧ Hid (Own tOp 82 wr (fun b => w1.heap.size ≤ b ∧ Old wr b) (lastWk t.Ops k) v) ∧ Hid (Blk wr w.heap.size 57 #[.int .i64 t.Session, .slice A t.Ops.length c, .bool t.Done]) ∧ Hid (Below w.heap.size w wr)) (fun _ i _ _ => 3 - (intOf i).toNat)
  case atStart => exact ⟨0, by omega, rfl, by rw [← hs1]; exact HO1.out, HX2.out, HB2.out⟩
  case round =>
    obtain ⟨k, hk, rfl, hO, hX, hb⟩ := hrel
    clear HX2 HB2 HO1
    have HX := hide hX.out; have HB := hide hb.out; have HO := hide hO.out
    have c0 := hX.out.cell 0; have c1 := hX.out.cell 1; have c2 := hX.out.cell 2
    simp only [List.getElem?_toArray, List.getElem?_cons_zero, List.getElem?_cons_succ] at c0 c1 c2
    have hz := hX.out.lt
    have hkl := lastWk_len t.Ops k
    clear hX hb hO
    by_cases hlt : k < 3
    · have hk3 : decide ((k : Int) ≤ 2) = true := decide_eq_true (by omega)
      go_wp2_with (go_at_call 94; refine (HTV.out _ HB.out).mono ?_; rintro e w2 ⟨rfl, hb2⟩; have HB3 := hide (HB.out.trans (hb2.mono HB.out.size)); have hX3 := HX.out.below hb2 HX.out.lt; have HX3 := hide hX3; have d0 := hX3.cell 0; have d1 := hX3.cell 1; have d2 := hX3.cell 2; simp only [List.getElem?_toArray, List.getElem?_cons_zero, List.getElem?_cons_succ] at d0 d1 d2; have hz3 := hX3.lt; have HO3 := hide (HO.out.onlyBelow hb2); clear hb2 hX3 c0 c1 c2)
      go_loopw [3, 5] (fun v j wr2 => v = u3 ∧ ∃ (l : Nat) (x : Int), l ≤ t.Ops.length ∧ j = .int .i64 x ∧ x = l - 1 ∧ Hid (lastW t.Ops k = lastW (t.Ops.take l) k) ∧ Hid (Below w2.heap.size w2 wr2)) (fun _ j _ => (intOf j + 1).toNat)
      case atStart => exact ⟨rfl, t.Ops.length, (t.Ops.length : Int) - 1, Nat.le_refl _, by go_num, rfl, by rw [List.take_length]; rfl, Below.refl _ _⟩
      case round =>
        obtain ⟨rfl, l, x, hl, rfl, hx, hL, hbw⟩ := hrel
        have HL := hide hL.out
        have hX4 := HX3.out.below hbw.out HX3.out.lt
        have HX4 := hide hX4
        have HO4 := hide (HO3.out.onlyBelow hbw.out)
        have HB4 := hide (HB3.out.trans (hbw.out.mono HB3.out.size))
        have e0 := hX4.cell 0; have e1 := hX4.cell 1; have e2 := hX4.cell 2
        simp only [List.getElem?_toArray, List.getElem?_cons_zero, List.getElem?_cons_succ] at e0 e1 e2
        have hz4 := hX4.lt
        clear hX4 hL d0 d1 d2
        rcases l with _ | l
        · obtain rfl : x = -1 := by omega
          have HS := hide (show lastWk t.Ops (k + 1) = lastWk t.Ops k by rw [lastWk, HL.out]; simp [lastW, Option.toList])
          clear hx
          go_wp2_with fail
          go_roundw
          case rel => exact ⟨k + 1, by omega, by go_num, by rw [HS.out]; exact HO4.out, HX4.out, HB4.out⟩
          case measure => simp [intOf]; omega
        · obtain rfl : x = (l : Int) := by omega
          have hll : l < t.Ops.length := by omega
          obtain ⟨b, off, rfl, hbS, d0, d1, d2⟩ := at_Op HA.out HB4.out hll
          have HLs := hide (lastW_snoc t.Ops l hll k)
          clear hx
          cases hkd : (t.Ops[l].Kind == 2) with
          | false =>
            have HL2 := hide (show lastW t.Ops k = lastW (t.Ops.take l) k by rw [HL.out, HLs.out, hkd]; rfl)
            clear HLs
            go_wp2_with fail
            go_roundw
            case rel => exact ⟨rfl, l, (l : Int) - 1, by omega, by go_num, rfl, HL2.out, hbw.out⟩
            case measure => simp [intOf]
          | true =>
            cases hky : (t.Ops[l].Key == (k : Int)) with
            | false =>
              have HL2 := hide (show lastW t.Ops k = lastW (t.Ops.take l) k by rw [HL.out, HLs.out, hkd, hky]; rfl)
              clear HLs
              go_wp2_with fail
              go_roundw
              case rel => exact ⟨rfl, l, (l : Int) - 1, by omega, by go_num, rfl, HL2.out, hbw.out⟩
              case measure => simp [intOf]
            | true =>
              have HS := hide (show lastWk t.Ops (k + 1) = lastWk t.Ops k ++ [t.Ops[l]] by rw [lastWk, HL.out, HLs.out, hkd, hky]; rfl)
              clear HLs
              go_wp2_with (at_builtin; refine wpList_put tOp rfl (.tmp 40) (.tmp 46) 55 rfl 82 i0 _ 24 Tryz.underlying55 hi hz0 hz1 (by assumption) rfl (by decide) (fun b => w1.heap.size ≤ b) (fun _ => False) (lastWk t.Ops k) t.Ops[l] [.int .i64 t.Ops[l].Kind, .int .i64 t.Ops[l].Key, .int .i64 t.Ops[l].Value] _ rfl HO4.out 1 rfl rfl (fun _ h => h.elim) (fun b hb => by omega) (by simp only [maxLen]; omega) (by omega) ?_; intro v5 w5 hO_ hK_; have HO5 := hide hO_; have HK5 := hide hK_; clear hO_ hK_)
              go_roundw
              case rel => exact ⟨k + 1, by omega, by go_num, by rw [HS.out]; exact HO5.out, HX4.out.of (HK5.out.block _ HX4.out.lt (by omega)), below_only HB4.out HK5.out HB4.out.size (fun i h => by omega)⟩
              case measure => simp [intOf]; omega
    · obtain rfl : k = 3 := by omega
      have HO1 := hide (show Own tOp 82 wr (fun b => w1.heap.size ≤ b ∧ Old wr b) (lastWs t.Ops) u3 from by rw [← lastWk_3]; exact HO.out)
      clear HO
      go_wp2_with fail
      go_ret
      exact ⟨_, rfl, HO1.out.mono (fun b h => ⟨by have := h.1; omega, h.2⟩) (fun _ _ => rfl), HB.out⟩
theorem fresh_neg {ops : List Op} {k : Nat} (hok : ∀ o ∈ ops, opOk o = true) (key : Int) : decide (beforeV (ops.take k) key < 0) = (lastOn (ops.take k) key).isNone := by
  cases h : lastOn (ops.take k) key with
  | none => rw [beforeV_none h]; rfl
  | some o =>
    rw [beforeV_some h]
    have := (opOk_parts (hok o (List.mem_of_mem_take (lastOn_some h).1))).2.2.1
    simp; omega
set_option maxRecDepth 10000 in
set_option maxHeartbeats 2000000 in
theorem specFirstReads (t : Txn) (A : Option Addr) (c : Nat) (w : World) (hv : txnOk t = true) (hA : Row tOp w (Old w) A t.Ops) :
    Calls Tryz.prog 57 #[.agg #[.int .i64 t.Session, .slice A t.Ops.length c, .bool t.Done]] w fun e w' => ∃ v, e = .returned v ∧ Own tOp 82 w' (New w w') (firstR t.Ops) v ∧ Below w.heap.size w w' := by
  obtain ⟨i0, hi, hz0, hz1, hz2⟩ := info_parts infoOp_
  have h6 := (txnOk_parts hv).2
  have HFn := hide (fun (k : Nat) (key : Int) => fresh_neg (ops := t.Ops) (k := k) (txnOk_parts hv).1 key)
  have HTV := hide (fun (W : World) (hb : Below w.heap.size w W) => specTxnValid t A c W (by simp only [maxLen]; omega) (hA.old hb))
  rw [hv] at HTV
  have HBf := hide (fun (W : World) (n : Nat) (key : Int) (hn : n ≤ t.Ops.length) (hb : Below w.heap.size w W) => l4Before_any t n key A c W (by simp only [maxLen]; omega) hn (hA.old hb))
  have HA := hide hA
  clear hA hv
  have hq : t.Ops.length ≤ 9223372036854775807 := by omega
  obtain ⟨w1, hw1⟩ : ∃ w1, w1 = w.alloc (.cells #[.int .i64 t.Session, .slice A t.Ops.length c, .bool t.Done] 57) := ⟨_, rfl⟩
  have HX1 := hide (show Blk w1 w.heap.size 57 #[.int .i64 t.Session, .slice A t.Ops.length c, .bool t.Done] by rw [hw1]; exact Blk.new w _ _)
  have HB1 := hide (show Below w.heap.size w w1 by rw [hw1]; exact (Below.refl _ w).alloc (Nat.le_refl _) _)
  have HO1 := hide (Own.empty (T := tOp) (e := 82) w1 (fun b => w1.heap.size ≤ b) (Nat.le_refl _))
  have hs1 : w1.heap.size = w.heap.size + 1 := by rw [hw1]; simp
  go_enter Tryz.func57, Tryz.ntmps57
  go_wp2
  simp only [← hw1]
  generalize hW : w1.alloc _ = W at HO1 ⊢
  have HX2 := hide (show Blk W w.heap.size _ _ by rw [← hW]; exact HX1.out.alloc _)
  have HB2 := hide (show Below w.heap.size w W by rw [← hW]; exact HB1.out.alloc (by omega) _)
  clear hW HX1 HB1 hw1
  go_loopw [3, 4] (fun v i wr => ∃ k : Nat, k ≤ t.Ops.length ∧ i = .int .i64 k ∧ Hid (Own tOp 82 wr (fun b => w1.heap.size ≤ b ∧ Old wr b) (firstRs t.Ops k) v) ∧ Hid (Blk wr w.heap.size 57 #[.int .i64 t.Session, .slice A t.Ops.length c, .bool t.Done]) ∧ Hid (Below w.heap.size w wr)) (fun _ i _ => t.Ops.length - (intOf i).toNat)
  case atStart => exact ⟨0, by omega, rfl, by rw [← hs1]; exact HO1.out, HX2.out, HB2.out⟩
  case round =>
    obtain ⟨k, hk, rfl, hO, hX, hb⟩ := hrel
    clear HX2 HB2 HO1
    have HX := hide hX.out; have HB := hide hb.out; have HO := hide hO.out
    have c0 := hX.out.cell 0; have c1 := hX.out.cell 1; have c2 := hX.out.cell 2
    simp only [List.getElem?_toArray, List.getElem?_cons_zero, List.getElem?_cons_succ] at c0 c1 c2
    have hz := hX.out.lt
    have hkl := firstRs_len t.Ops k
    clear hX hb hO
    by_cases hlt : k < t.Ops.length
    · have hk3 : decide ((k : Int) < (t.Ops.length : Int)) = true := decide_eq_true (by omega)
      have HS := hide (firstRs_succ t.Ops k hlt)
      obtain ⟨b, off, hAe, hbS, _⟩ := at_Op HA.out HB.out hlt
      subst hAe
      go_wp2_with (go_at_call 94; refine (HTV.out _ HB.out).mono ?_; rintro e w2 ⟨rfl, hb2⟩; have HB3 := hide (HB.out.trans (hb2.mono HB.out.size)); have hX3 := HX.out.below hb2 HX.out.lt; have HX3 := hide hX3; have d0 := hX3.cell 0; have d1 := hX3.cell 1; have d2 := hX3.cell 2; simp only [List.getElem?_toArray, List.getElem?_cons_zero, List.getElem?_cons_succ] at d0 d1 d2; have hz3 := hX3.lt; have HO3 := hide (HO.out.onlyBelow hb2); clear hb2 hX3 c0 c1 c2)
      obtain ⟨b', off', hAe', _, g0, g1, g2⟩ := at_Op HA.out HB3.out hlt
      obtain ⟨rfl, rfl⟩ : b = b' ∧ off = off' := by simpa using hAe'
      clear hAe'
      cases hkd : (t.Ops[k].Kind == 1) with
      | false =>
        have HS2 := hide (show firstRs t.Ops (k + 1) = firstRs t.Ops k by rw [HS.out, hkd]; simp)
        clear HS
        go_quiet (fail)
        go_wp2_with fail
        go_roundw
        case rel => exact ⟨k + 1, by omega, by go_num, by rw [HS2.out]; exact HO3.out.mono (fun _ h => h) (fun _ _ => rfl), HX3.out, below_drewN HB3.out _⟩
        case measure => simp [intOf]; omega
      | true =>
        go_still_tail 16, (by kernel_rfl)
        have HB4 := hide (show Below w.heap.size w w2.drew from HB3.out.drew)
        have HX4 := hide (show Blk w2.drew w.heap.size 57 #[.int .i64 t.Session, .slice (some ⟨b, off, none⟩) t.Ops.length c, .bool t.Done] from HX3.out)
        have HO4 := hide (show Own tOp 82 w2.drew (fun b => w1.heap.size ≤ b ∧ Old w2.drew b) (firstRs t.Ops k) u3 from HO3.out.mono (fun _ h => h) (fun _ _ => rfl))
        have HC := hide (HBf.out w2.drew k t.Ops[k].Key (by omega) HB4.out)
        have HN := hide (HFn.out k t.Ops[k].Key)
        change wpList _ _ _ _ _ w2.drew
        generalize w2.drew = w4 at HB4 HX4 HO4 HC ⊢
        clear HB3 HX3 HO3 d0 d1 d2 g0 g1 g2
        cases hnn : (lastOn (t.Ops.take k) t.Ops[k].Key).isNone with
        | false =>
          have HS2 := hide (show firstRs t.Ops (k + 1) = firstRs t.Ops k by rw [HS.out, hnn]; simp)
          have HNb := hide (HN.out.trans hnn)
          clear HS HN
          go_wp2_with (go_at_call 100; refine HC.out.mono ?_; rintro e w5 ⟨rfl, hb5⟩; have hbe : decide (beforeV (List.take k t.Ops) t.Ops[k].Key < 0) = false := HNb.out; have hX5 := HX4.out.below hb5 HX4.out.lt; have HX5 := hide hX5; have HB5 := hide (HB4.out.trans (hb5.mono HB4.out.size)); have HO5 := hide (HO4.out.onlyBelow hb5); obtain ⟨b', off', hAe', _, g0, g1, g2⟩ := at_Op HA.out HB5.out hlt; obtain ⟨rfl, rfl⟩ : b = b' ∧ off = off' := (by simpa using hAe'); clear hAe'; have e0 := hX5.cell 0; have e1 := hX5.cell 1; have e2 := hX5.cell 2; simp only [List.getElem?_toArray, List.getElem?_cons_zero, List.getElem?_cons_succ] at e0 e1 e2; have hz5 := hX5.lt; clear hX5 hb5)
          go_roundw
          case rel => exact ⟨k + 1, by omega, by go_num, by rw [HS2.out]; exact HO5.out, HX5.out, HB5.out⟩
          case measure => simp [intOf]; omega
        | true =>
          have HS2 := hide (show firstRs t.Ops (k + 1) = firstRs t.Ops k ++ [t.Ops[k]] by rw [HS.out, hkd, hnn]; rfl)
          have HNb := hide (HN.out.trans hnn)
          clear HS HN
          go_wp2_with (first | (go_at_call 100; refine HC.out.mono ?_; rintro e w5 ⟨rfl, hb5⟩; have hbe : decide (beforeV (List.take k t.Ops) t.Ops[k].Key < 0) = true := HNb.out; have hX5 := HX4.out.below hb5 HX4.out.lt; have HX5 := hide hX5; have HB5 := hide (HB4.out.trans (hb5.mono HB4.out.size)); have HO5 := hide (HO4.out.onlyBelow hb5); obtain ⟨b', off', hAe', _, g0, g1, g2⟩ := at_Op HA.out HB5.out hlt; obtain ⟨rfl, rfl⟩ : b = b' ∧ off = off' := (by simpa using hAe'); clear hAe'; have e0 := hX5.cell 0; have e1 := hX5.cell 1; have e2 := hX5.cell 2; simp only [List.getElem?_toArray, List.getElem?_cons_zero, List.getElem?_cons_succ] at e0 e1 e2; have hz5 := hX5.lt; clear hX5 hb5) | (at_builtin; refine wpList_put tOp rfl (.tmp 36) (.tmp 42) 55 rfl 82 i0 _ 24 Tryz.underlying55 hi hz0 hz1 (by assumption) rfl (by decide) (fun b => w1.heap.size ≤ b) (fun _ => False) (firstRs t.Ops k) t.Ops[k] [.int .i64 t.Ops[k].Kind, .int .i64 t.Ops[k].Key, .int .i64 t.Ops[k].Value] _ rfl HO5.out 1 rfl rfl (fun _ h => h.elim) (fun b hb => by omega) (by simp only [maxLen]; omega) (by omega) ?_; intro v6 w6 hO_ hK_; have HO6 := hide hO_; have HK6 := hide hK_; clear hO_ hK_))
          go_roundw
          case rel => exact ⟨k + 1, by omega, by go_num, by rw [HS2.out]; exact HO6.out, HX5.out.of (HK6.out.block _ HX5.out.lt (by omega)), below_only HB5.out HK6.out HB5.out.size (fun i h => by omega)⟩
          case measure => simp [intOf]; omega
    · obtain rfl : k = t.Ops.length := by omega
      have HO1 := hide (show Own tOp 82 wr (fun b => w1.heap.size ≤ b ∧ Old wr b) (firstR t.Ops) u3 from HO.out)
      have hkf : decide (((t.Ops.length : Nat) : Int) < (t.Ops.length : Int)) = false := decide_eq_false (by omega)
      clear HO
      go_wp2_with fail
      go_ret
      exact ⟨_, rfl, HO1.out.mono (fun b h => ⟨by have := h.1; omega, h.2⟩) (fun _ _ => rfl), HB.out⟩
end Go.Proofs.YtjiobgfaohldhaaGreat
namespace Go.Proofs.YtjiobgfaohldhaaGreat
open Go.RowKit Go.Maps
set_option linter.unusedVariables false
set_option linter.unusedSimpArgs false

/-- What transaction t installs for a key. -/
def insT (t : Txn) (key : Int) : List Int := if t.Done then (lastW t.Ops key).toList.map Op.Value else []
def instV (h : List Txn) (key : Int) : Nat → List Int
  | 0 => []
  | k + 1 => instV h key k ++ ((h[k]?.map fun t => insT t key).getD [])
/-- The values that are installed for a key. -/
def instL (h : List Txn) (key : Int) : List Int := instV h key h.length
/-- By the numbers of transactions. -/
def instD (h : List Txn) (key : Int) (ns : List Int) : List Int := ns.flatMap fun n => (h[n.toNat]?.map fun t => (lastW t.Ops key).toList.map Op.Value).getD []
theorem instV_succ (h : List Txn) (key : Int) (k : Nat) (hk : k < h.length) : instV h key (k + 1) = instV h key k ++ insT h[k] key := by
  rw [instV, List.getElem?_eq_getElem hk]; rfl
theorem instD_append (h : List Txn) (key : Int) (a b : List Int) : instD h key (a ++ b) = instD h key a ++ instD h key b := by
  unfold instD; rw [List.flatMap_append]
theorem instD_one {h : List Txn} (key : Int) {n : Nat} (hn : n < h.length) : instD h key [(n : Int)] = (lastW h[n].Ops key).toList.map Op.Value := by
  unfold instD
  simp [List.getElem?_eq_getElem hn]
theorem instD_done (h : List Txn) (key : Int) : ∀ k, k ≤ h.length → instD h key (doneI h k) = instV h key k
  | 0, _ => rfl
  | k + 1, hk => by
    have hk' : k < h.length := by omega
    rw [doneI_succ h k hk', instV_succ h key k hk', instD_append, instD_done h key k (by omega)]
    congr 1
    unfold insT
    cases hd : h[k].Done with
    | false => rfl
    | true => rw [if_pos rfl, if_pos rfl, instD_one key hk']
theorem instD_all (h : List Txn) (key : Int) : instD h key (doneL h) = instL h key := instD_done h key h.length (Nat.le_refl _)
theorem insT_len (t : Txn) (key : Int) : (insT t key).length ≤ 1 := by
  unfold insT
  split
  · cases lastW t.Ops key <;> simp
  · simp
theorem instV_len (h : List Txn) (key : Int) : ∀ k, (instV h key k).length ≤ k
  | 0 => by simp [instV]
  | k + 1 => by
    have h1 := instV_len h key k
    by_cases hk : k < h.length
    · have h2 := insT_len h[k] key
      rw [instV_succ h key k hk, List.length_append]; omega
    · rw [instV, List.getElem?_eq_none (by omega)]
      simp; omega
theorem insT_count (t : Txn) (key v : Int) : (insT t key).count v ≤ t.Ops.countP (isW key v) := by
  unfold insT
  split
  · cases hw : lastW t.Ops key with
    | none => simp
    | some o =>
      obtain ⟨h1, h2, h3⟩ := lastW_some hw
      by_cases hv : o.Value = v
      · have : 0 < t.Ops.countP (isW key v) := List.countP_pos_iff.2 ⟨o, h1, by unfold isW; simp [h2, h3, hv]⟩
        exact Nat.le_trans (Nat.le_trans List.count_le_length (by simp)) this
      · simp [hv]
  · simp
theorem instV_count (h : List Txn) (key v : Int) : ∀ k, k ≤ h.length → (instV h key k).count v ≤ writesN (h.take k) key v
  | 0, _ => by simp [instV]
  | k + 1, hk => by
    have hk' : k < h.length := by omega
    have h1 := instV_count h key v k (by omega)
    have h2 := insT_count h[k] key v
    have h3 := tot_take (fun x : Txn => x.Ops.countP (isW key v)) h k hk'
    rw [instV_succ h key k hk', List.count_append]
    unfold writesN at h1 ⊢
    omega
theorem instV_mem (h : List Txn) (key v : Int) : ∀ k, k ≤ h.length → v ∈ instV h key k → ∃ t ∈ h, ∃ o ∈ t.Ops, o.Kind = 2 ∧ o.Key = key ∧ o.Value = v
  | 0, _ => fun hv => by simp [instV] at hv
  | k + 1, hk => fun hv => by
    have hk' : k < h.length := by omega
    rw [instV_succ h key k hk', List.mem_append] at hv
    rcases hv with hv | hv
    · exact instV_mem h key v k (by omega) hv
    · unfold insT at hv
      split at hv
      · cases hw : lastW h[k].Ops key with
        | none => rw [hw] at hv; simp at hv
        | some o =>
          rw [hw] at hv
          obtain ⟨h1, h2, h3⟩ := lastW_some hw
          have : o.Value = v := by
            simp at hv
            exact hv.symm
          exact ⟨h[k], List.getElem_mem _, o, h1, h2, h3, this⟩
      · cases hv
/-- No value is installed twice for a key. -/
theorem instL_nodup {h : List Txn} (hv : histV h = true) (key : Int) : (instL h key).Nodup := by
  rw [List.nodup_iff_count]
  intro v
  by_cases hm : v ∈ instL h key
  · obtain ⟨t, ht, o, ho, h1, h2, h3⟩ := instV_mem h key v h.length (Nat.le_refl _) hm
    have h4 := instV_count h key v h.length (Nat.le_refl _)
    rw [List.take_length] at h4
    unfold histV at hv
    rw [Bool.and_eq_true, List.all_eq_true] at hv
    have h5 := hv.1 t ht
    unfold txnFine at h5
    rw [Bool.and_eq_true, List.all_eq_true] at h5
    have h6 := h5.2 o ho
    unfold opFine at h6
    rw [h1, h2, h3] at h6
    simp at h6
    unfold instL
    omega
  · rw [List.count_eq_zero.2 hm]; omega
theorem filter_key7 {l : List Op} {key k : Int} (h : ∀ o ∈ l, o.Key = key) : l.filter (fun o => o.Key == k) = if key = k then l else [] := by
  split
  · rename_i hk
    rw [List.filter_eq_self]
    intro o ho
    rw [h o ho, hk]; simp
  · rename_i hk
    rw [List.filter_eq_nil_iff]
    intro o ho
    rw [h o ho]; simpa using hk
theorem lastWs_filter7 (ops : List Op) (k : Int) (hk : k = 0 ∨ k = 1 ∨ k = 2) : (lastWs ops).filter (fun o => o.Key == k) = (lastW ops k).toList := by
  have h : ∀ key : Int, ∀ o ∈ (lastW ops key).toList, o.Key = key := fun key o ho => (lastW_some (by simpa using ho)).2.2
  unfold lastWs
  rw [List.filter_append, List.filter_append, filter_key7 (h 0), filter_key7 (h 1), filter_key7 (h 2)]
  rcases hk with rfl | rfl | rfl <;> simp
theorem filter_snoc7 (L : List Op) (l : Nat) (hl : l < L.length) (key : Int) : ((L.take (l + 1)).filter (fun o => o.Key == key)).map Op.Value = ((L.take l).filter (fun o => o.Key == key)).map Op.Value ++ (if L[l].Key == key then [L[l].Value] else []) := by
  rw [List.take_succ_eq_append_getElem hl, List.filter_append, List.map_append]
  congr 1
  cases hk : (L[l].Key == key) <;> simp [List.filter_cons, hk]
theorem lastWs_len7 (ops : List Op) : (lastWs ops).length ≤ 3 := by rw [← lastWk_3]; exact lastWk_len ops 3
theorem instD_len (h : List Txn) (key : Int) : ∀ ns : List Int, (instD h key ns).length ≤ ns.length
  | [] => by simp [instD]
  | n :: l => by
    have h1 : instD h key (n :: l) = (h[n.toNat]?.map fun t => (lastW t.Ops key).toList.map Op.Value).getD [] ++ instD h key l := by unfold instD; rw [List.flatMap_cons]
    rw [h1, List.length_append, List.length_cons]
    have h2 := instD_len h key l
    have h3 : ((h[n.toNat]?.map fun t => (lastW t.Ops key).toList.map Op.Value).getD []).length ≤ 1 := by
      cases h[n.toNat]? with
      | none => simp
      | some t => cases hw : lastW t.Ops key <;> simp [hw]
    omega
set_option maxRecDepth 10000 in
set_option maxHeartbeats 4000000 in
theorem implInstalled (xs : List Txn) (key : Int) (A : Option Addr) (c : Nat) (w : World) (hv : histV xs = true) (hky : key = 0 ∨ key = 1 ∨ key = 2) (hA : Row tTxn w (Old w) A xs) :
    Calls Tryz.prog 124 #[.slice A xs.length c, .int .i64 key] w fun e w' => ∃ v, e = .returned v ∧ Own tInt 3 w' (New w w') (instL xs key) v ∧ Below w.heap.size w w' := by
  obtain ⟨i0, hi_, hz0, hz1, hz2⟩ := info_parts infoInt_
  have hx6 : xs.length ≤ 6 := (histV_parts hv).1
  have hmk : ∀ W : World, (Instr.makeSlice 23 (.int .i64 0) (.int .i64 (xs.length : Int))).run Tryz.prog W = .ok (.slice (some ⟨W.heap.size, 0, none⟩) 0 xs.length) (W.alloc (.cells (madeCells (Value.cells (.int .i64 0)) (xs.length * 1)) 3)) := fun W => by
    have h := run_make_rowN (P := Tryz.prog) 23 3 i0 _ Tryz.underlying23 hi_ hz0 .i64 .i64 0 xs.length (Nat.zero_le _) (by rw [hz2]; omega) (by omega) W
    rw [hz1] at h
    exact h
  have HC := hide (implHistoryValid xs A c w (by simp only [maxLen]; omega) hA)
  rw [hv] at HC
  have HTx := hide (histV_parts hv).2
  have HAll := hide (instD_all xs key)
  have HDn := hide (fun (W : World) (hb : Below w.heap.size w W) => implDone xs A c W (by omega) (hA.old hb))
  have HIn := hide (fun n hn => doneI_mem xs xs.length n hn)
  have hdl : (doneL xs).length ≤ 6 := Nat.le_trans (doneI_len xs _) hx6
  have hkr : inR key 0 2 = true := inR_iff.2 (by omega)
  have HA := hide hA; have HMk := hide hmk
  have hq : xs.length ≤ 9223372036854775807 := by omega
  clear hA hv hmk
  rw [show doneI xs xs.length = doneL xs from rfl] at HIn
  generalize doneL xs = D at HAll HDn HIn hdl
  have hqD : D.length ≤ 9223372036854775807 := by omega
  go_enter Tryz.func124, Tryz.ntmps124
  go_upto_region 3 with (first | (go_at_call 66; refine HC.out.mono ?_; rintro e w1 ⟨rfl, hb1⟩; have HB1 := hide hb1; clear hb1) | (go_at_call 144; refine (keyOk _ _).mono ?_; rintro e w' ⟨rfl, rfl⟩; rw [hkr]))
  have hmk := HMk.out w1
  have HO0 := hide (Own.made (T := tInt) (e := 3) w1 (S := fun b => b = w1.heap.size) (madeCells (Value.cells (.int .i64 0)) (xs.length * 1)) xs.length (by rw [size_madeCells]; rfl) (by simp only [maxLen]; omega) rfl)
  generalize madeCells (Value.cells (.int .i64 0)) (xs.length * 1) = Mc at hmk HO0
  have HB2 := hide (HB1.out.alloc HB1.out.size (.cells Mc 3))
  have hw1 := HB1.out.size
  clear HC HMk
  go_wp2_with (go_at_call 70; refine (HDn.out _ HB2.out).mono ?_; rintro e w2 ⟨v2, rfl, hO2, hb2⟩; obtain ⟨A2, c2, rfl, h21, h22, h23⟩ := hO2.sl; have HRd := hide h23; have HBd := hide hb2; have HBw2 := hide (HB2.out.trans (hb2.mono HB2.out.size)); clear hb2 hO2 h23)
  clear hmk
  have hz12 : w1.heap.size + 1 ≤ w2.heap.size := by have := HBd.out.size; simpa using this
  have HO1 := hide (show Own tInt 3 w2 (fun b => (b = w1.heap.size ∨ w2.heap.size ≤ b) ∧ Old w2 b) [] _ from HO0.out.mono (fun b hb => ⟨.inl hb, by unfold Old; omega⟩) (fun b hb => HBd.out.block b (by simp; omega)))
  clear HO0 HB1 HB2 HDn
  go_loopw [5, 7, 9, 24] (fun v _ _ i wr => ∃ k : Nat, k ≤ D.length ∧ i = .int .i64 k ∧ Hid (Own tInt 3 wr (fun b => (b = w1.heap.size ∨ w2.heap.size ≤ b) ∧ Old wr b) (instD xs key (D.take k)) v) ∧ Hid (Only (fun b => b = w1.heap.size ∨ w2.heap.size ≤ b) w2 wr)) (fun _ _ _ i _ => D.length - (intOf i).toNat)
  case atStart => exact ⟨0, Nat.zero_le _, rfl, HO1.out, Only.refl _ _⟩
  case round =>
    obtain ⟨k, hk, rfl, hO, hOn⟩ := hrel
    have HO := hide hO.out; have HOn := hide hOn.out
    have HBr := hide (below_only HBw2.out hOn.out HBw2.out.size (fun i hi => by have := HBw2.out.size; omega))
    clear hO hOn HO1
    by_cases hlt : k < D.length
    · have hR5 := HRd.out.mono (w' := wr) (S' := Old wr) (fun b h => Nat.lt_of_lt_of_le h.2 HOn.out.size) (fun b h => HOn.out.block b h.2 (fun h9 => by have h1 := h.1; have h2 := h.2; simp at h1; omega))
      obtain ⟨b, off, hbe, hbS, c0⟩ := at_Int hR5 (Below.refl _ _) hlt
      subst hbe
      obtain ⟨hn0, hn1⟩ := HIn.out _ (List.getElem_mem hlt)
      obtain ⟨n, hn⟩ : ∃ n : Nat, D[k] = (n : Int) := ⟨D[k].toNat, by omega⟩
      have hnl : n < xs.length := by omega
      have HTk := hide (show instD xs key (D.take (k + 1)) = instD xs key (D.take k) ++ (lastW xs[n].Ops key).toList.map Op.Value by
        rw [List.take_succ_eq_append_getElem hlt, instD_append, hn, instD_one key hnl])
      rw [hn] at c0
      obtain ⟨b1, off1, A3, c3, rfl, hbS1, e0, e1, e3, hj1, hj2, hj3⟩ := at_Txn HA.out HBr.out hnl
      have htx := HTx.out _ (List.getElem_mem hnl)
      have HOk := hide (txnOk_parts htx).1
      have HFR := hide (implLastWrites xs[n] A3 c3 wr (txnOk_parts htx).2 (txnOk_parts htx).1 hj3)
      have hRl := lastWs_len7 xs[n].Ops
      have HFi := hide (lastWs_filter7 xs[n].Ops key hky)
      generalize lastWs xs[n].Ops = L at HFR hRl HFi
      have hRq : L.length ≤ 9223372036854775807 := by omega
      have hil : (instD xs key (D.take k)).length ≤ 6 := Nat.le_trans (instD_len xs key _) (by rw [List.length_take]; omega)
      clear htx hj3 hn hn0 hn1 hR5
      go_wp2_with (go_at_call 145; refine HFR.out.mono ?_; rintro e w4 ⟨v4, rfl, hS4, hb4⟩; obtain ⟨A4, c4, rfl, h41, h42, h43⟩ := hS4.sl; have HR4 := hide h43; have HB4 := hide hb4; clear hb4 h43 hS4)
      clear c0 e0 e1 e3
      obtain ⟨wo, hwo⟩ : ∃ wo : World, wo = wr := ⟨_, rfl⟩
      rw [← hwo] at HO HOn HB4 HR4
      clear hwo HFR
      have hzo : w2.heap.size ≤ wo.heap.size := HOn.out.size
      have hz4 : wo.heap.size ≤ w4.heap.size := HB4.out.size
      have HOs := hide (HO.out.mono (w' := w4) (S2 := fun b => ((b = w1.heap.size ∨ w2.heap.size ≤ b) ∧ ¬ (wo.heap.size ≤ b ∧ b < w4.heap.size)) ∧ Old w4 b) (fun b hb => ⟨⟨hb.1, fun h9 => by have := hb.2; unfold Old at this; omega⟩, Nat.lt_of_lt_of_le hb.2 hz4⟩) (fun b hb => HB4.out.block b hb.2))
      go_loopw [5, 9, 34] (fun v _ i wr => ∃ l : Nat, l ≤ L.length ∧ i = .int .i64 l ∧ Hid (Own tInt 3 wr (fun b => ((b = w1.heap.size ∨ w2.heap.size ≤ b) ∧ ¬ (wo.heap.size ≤ b ∧ b < w4.heap.size)) ∧ Old wr b) (instD xs key (D.take k) ++ ((L.take l).filter (fun o => o.Key == key)).map Op.Value) v) ∧ Hid (Only (fun b => (b = w1.heap.size ∨ w2.heap.size ≤ b) ∧ ¬ (wo.heap.size ≤ b ∧ b < w4.heap.size)) w4 wr)) (fun _ _ i _ => L.length - (intOf i).toNat)
      case atStart => exact ⟨0, Nat.zero_le _, rfl, (by have h9 := HOs.out; rw [← List.append_nil (instD xs key (D.take k))] at h9; exact h9), Only.refl _ _⟩
      case round =>
        obtain ⟨l, hl2, rfl, hO2, hOn2⟩ := hrel
        have HO2 := hide hO2.out; have HOw := hide hOn2.out
        clear hO2 hOn2 HOs
        have hzr := HOw.out.size
        by_cases hlt2 : l < L.length
        · have hR6 := HR4.out.mono (w' := wr) (S' := Old wr) (fun b h => Nat.lt_of_lt_of_le h.2 HOw.out.size) (fun b h => HOw.out.block b h.2 (fun h9 => h9.2 h))
          obtain ⟨b4, off4, hA4, hbS4, x0, x1, x2⟩ := at_Op hR6 (Below.refl _ _) hlt2
          subst hA4
          have HSn := hide (filter_snoc7 L l hlt2 key)
          have hfl : ((L.take l).filter (fun o => o.Key == key)).length ≤ 3 := Nat.le_trans (List.length_filter_le _ _) (by rw [List.length_take]; omega)
          have hln : (instD xs key (D.take k) ++ ((L.take l).filter (fun o => o.Key == key)).map Op.Value).length ≤ 9 := by rw [List.length_append, List.length_map]; omega
          generalize L[l] = o at x0 x1 x2 HSn
          obtain ⟨kd, ky, vl⟩ := o
          dsimp only at x0 x1 x2 HSn
          have HX := hide ((Below.refl wr.heap.size wr).alloc (Nat.le_refl _) (.cells #[.int .i64 kd, .int .i64 ky, .int .i64 vl] 82))
          have HOx := hide (HO2.out.onlyBelow HX.out)
          have HOnx := hide (HOw.out.trans (Only.of_below (S := fun b => (b = w1.heap.size ∨ w2.heap.size ≤ b) ∧ ¬ (wo.heap.size ≤ b ∧ b < w4.heap.size)) HX.out))
          have HKs := hide (show ∀ b, (wr.alloc (.cells #[.int .i64 kd, .int .i64 ky, .int .i64 vl] 82)).heap.size ≤ b → (b = w1.heap.size ∨ w2.heap.size ≤ b) ∧ ¬ (wo.heap.size ≤ b ∧ b < w4.heap.size) from fun b hb => by
            rw [World.size_alloc] at hb
            exact ⟨.inr (by omega), fun h9 => by omega⟩)
          clear hR6
          cases hkk : (ky == key) with
          | false =>
            rw [hkk] at HSn
            have HS2 := hide (show _ = ((L.take l).filter (fun o => o.Key == key)).map Op.Value from HSn.out.trans (by simp))
            clear HSn
            go_wp2_with fail
            go_roundw
            case rel => exact ⟨l + 1, by omega, by go_num, by rw [HS2.out]; exact HOx.out, HOnx.out⟩
            case measure => simp [intOf]; omega
          | true =>
            rw [hkk] at HSn
            have HS2 := hide (show _ = ((L.take l).filter (fun o => o.Key == key)).map Op.Value ++ [vl] from HSn.out.trans (by simp))
            clear HSn
            go_upto_region 10 with (fail)
            generalize hW : World.alloc _ _ = W
            have HXW := hide (show Blk W wr.heap.size 82 #[.int .i64 kd, .int .i64 ky, .int .i64 vl] by rw [← hW]; exact Blk.new wr _ _)
            rw [hW] at HOx HOnx HKs
            clear hW
            have y1 := HXW.out.cell 1; have y2 := HXW.out.cell 2
            simp only [List.getElem?_toArray, List.getElem?_cons_zero, List.getElem?_cons_succ] at y1 y2
            have hxz := HXW.out.lt
            go_wp2_with (at_builtin; refine wpList_put tInt rfl (.tmp 42) (.tmp 45) 23 rfl 3 i0 _ 8 Tryz.underlying23 hi_ hz0 hz1 hz2 rfl (by decide) (fun b => (b = w1.heap.size ∨ w2.heap.size ≤ b) ∧ ¬ (wo.heap.size ≤ b ∧ b < w4.heap.size)) (fun _ => False) (instD xs key (D.take k) ++ ((L.take l).filter (fun o => o.Key == key)).map Op.Value) vl [.int .i64 vl] _ rfl HOx.out 1 rfl rfl (fun _ h => h.elim) HKs.out (by simp only [maxLen]; omega) (by omega) ?_; intro v6 w6 hO_ hK_; have HO6 := hide hO_; have HK6 := hide hK_; clear hO_ hK_)
            go_roundw
            case rel => exact ⟨l + 1, by omega, by go_num, by rw [HS2.out, ← List.append_assoc]; exact HO6.out, HOnx.out.trans HK6.out⟩
            case measure => simp [intOf]; omega
        · obtain rfl : l = L.length := by omega
          have HO7 := hide (show Own tInt 3 wr (fun b => (b = w1.heap.size ∨ w2.heap.size ≤ b) ∧ Old wr b) (instD xs key (D.take (k + 1))) _ from by
            have h9 := HO2.out
            rw [List.take_length, HFi.out, ← HTk.out] at h9
            exact h9.mono (fun b h => ⟨h.1.1, h.2⟩) (fun _ _ => rfl))
          have HOn7 := hide ((HOn.out.trans ((Only.of_below (S := fun b => b = w1.heap.size ∨ w2.heap.size ≤ b) HB4.out))).trans (HOw.out.mono (fun b hb => hb.1)))
          go_wp2_with fail
          go_roundw
          case rel => exact ⟨k + 1, by omega, by go_num, HO7.out, HOn7.out⟩
          case measure => simp [intOf]; omega
    · obtain rfl : k = D.length := by omega
      have HF := hide (show Own tInt 3 wr (New w wr) (instL xs key) _ from by
        have h9 := HO.out
        rw [List.take_length, HAll.out] at h9
        exact h9.mono (fun b h => ⟨by have := HBw2.out.size; have := h.1; omega, h.2⟩) (fun _ _ => rfl))
      clear HO
      go_wp2_with fail
      go_ret
      exact ⟨_, rfl, HF.out, HBr.out⟩
def insR (h : List Txn) (key : Int) : List Int := if histV h then instL h key else []
set_option maxRecDepth 10000 in
set_option maxHeartbeats 4000000 in
theorem specInstalled (xs : List Txn) (key : Int) (A : Option Addr) (c : Nat) (w : World) (hm : xs.length ≤ maxLen) (ht : opsN xs ≤ 1048576) (hky : key = 0 ∨ key = 1 ∨ key = 2) (hA : Row tTxn w (Old w) A xs) :
    Calls Tryz.prog 50 #[.slice A xs.length c, .int .i64 key] w fun e w' => ∃ v, e = .returned v ∧ Own tInt 3 w' (New w w') (insR xs key) v ∧ Below w.heap.size w w' := by
  obtain ⟨i0, hi_, hz0, hz1, hz2⟩ := info_parts infoInt_
  have HCv := hide (fun (W : World) (hb : Below w.heap.size w W) => specHistoryValid xs A c W hm (hA.old hb) ht)
  have HR := hide (show insR xs key = if histV xs then instL xs key else [] from rfl)
  have hq : xs.length ≤ 9223372036854775807 := by simpa [maxLen] using hm
  have hkr : inR key 0 2 = true := inR_iff.2 (by omega)
  have HB0 := hide ((Below.refl _ w).alloc (Nat.le_refl _) (.cells #[] 3))
  have HO0 := hide (Own.empty (T := tInt) (e := 3) w (fun b => w.heap.size ≤ b) (Nat.le_refl _))
  cases hv : histV xs with
  | false =>
    rw [hv] at HCv HR
    clear hv hA
    by_cases h0 : 0 < xs.length
    · go_enter Tryz.func50, Tryz.ntmps50
      go_wp2_with fail
      refine wp_loop_rounds 1 ?_
      rw [rounds_succ]
      go_wp2_with (go_at_call 49; refine (HCv.out _ HB0.out).mono ?_; rintro e w2 ⟨rfl, hb2⟩; have HB2 := hide hb2; clear hb2)
      go_ret
      exact ⟨_, rfl, by rw [HR.out]; exact HO0.out.onlyBelow HB2.out, HB0.out.trans (HB2.out.mono HB0.out.size)⟩
    · have hz : xs.length = 0 := by omega
      go_enter Tryz.func50, Tryz.ntmps50
      go_wp2_with fail
      refine wp_loop_rounds 1 ?_
      rw [rounds_succ]
      go_wp2_with fail
      go_ret
      exact ⟨_, rfl, by rw [HR.out]; exact HO0.out, HB0.out⟩
  | true =>
    have hx6 : xs.length ≤ 6 := (histV_parts hv).1
    have HTx := hide (histV_parts hv).2
    have HAll := hide (show instL xs key = instV xs key xs.length from rfl)
    rw [hv] at HCv HR
    have HA := hide hA
    clear hv hA
    go_enter Tryz.func50, Tryz.ntmps50
    go_wp2_with fail
    go_loopw [5, 6, 7, 8] (fun v i _ _ wr => ∃ k : Nat, k ≤ xs.length ∧ i = .int .i64 k ∧ Hid (Own tInt 3 wr (fun b => w.heap.size ≤ b ∧ Old wr b) (instV xs key k) v) ∧ Hid (Below w.heap.size w wr)) (fun _ i _ _ _ => xs.length - (intOf i).toNat)
    case atStart => exact ⟨0, Nat.zero_le _, rfl, HO0.out, HB0.out⟩
    case round =>
      obtain ⟨k, hk, rfl, hO, hb⟩ := hrel
      have HO := hide hO.out; have HB := hide hb.out
      clear hO hb HO0 HB0
      by_cases hlt : k < xs.length
      · have HCk := hide (HCv.out _ HB.out)
        have HSu := hide (instV_succ xs key k hlt)
        have htx := HTx.out _ (List.getElem_mem hlt)
        have HLw := hide (fun (W : World) (hW : Below w.heap.size w W) => at_Txn HA.out hW hlt)
        have hRl := lastWs_len7 xs[k].Ops
        have HFi := hide (lastWs_filter7 xs[k].Ops key hky)
        have HSw := hide (fun (W : World) (A2 : Option Addr) (c2 : Nat) (h : Row tOp W (Old W) A2 xs[k].Ops) => specLastWrites xs[k] A2 c2 W htx h)
        have HIt := hide (show insT xs[k] key = if xs[k].Done then (lastW xs[k].Ops key).toList.map Op.Value else [] from rfl)
        have hil := instV_len xs key k
        generalize lastWs xs[k].Ops = L at HSw hRl HFi
        have hRq : L.length ≤ 9223372036854775807 := by omega
        clear htx
        go_upto_region 5 with (first | (go_at_call 49; refine HCk.out.mono ?_; rintro e w2 ⟨rfl, hb2⟩; have HB2 := hide (HB.out.trans (hb2.mono HB.out.size)); have HX2 := hide hb2; clear hb2) | (go_at_call 96; refine (l1In _ _ _ _).mono ?_; rintro e w' ⟨rfl, rfl⟩; rw [hkr]))
        obtain ⟨b1, off1, A3, c3, hAe, hbS1, e0, e1, e3, hj1, hj2, hj3⟩ := HLw.out w2 HB2.out
        subst hAe
        have HFR := hide (HSw.out w2 A3 c3 hj3)
        clear hj3 HLw HSw HCk
        go_wp2_with (go_at_call 97; refine HFR.out.mono ?_; rintro e w4 ⟨v4, rfl, hS4, hb4⟩; obtain ⟨A4, c4, rfl, h41, h42, h43⟩ := hS4.sl; have HR4 := hide h43; have HB4 := hide hb4; have HE3 := hide ((hb4.cell (p := ⟨b1, off1 + k * 3 + 2, none⟩) (Nat.lt_of_lt_of_le hbS1 HB2.out.size)).trans e3); clear hb4 h43 hS4)
        clear e0 e1 e3
        have hy2 : w.heap.size ≤ w2.heap.size := HB2.out.size
        have hy4 : w2.heap.size ≤ w4.heap.size := HB4.out.size
        have hb1w : b1 < w.heap.size := hbS1
        have HOs := hide ((HO.out.onlyBelow HX2.out).mono (w' := w4) (S2 := fun b => (w.heap.size ≤ b ∧ ¬ (w2.heap.size ≤ b ∧ b < w4.heap.size)) ∧ Old w4 b) (fun b hb => ⟨⟨hb.1, fun h9 => by have := hb.2; unfold Old at this; omega⟩, Nat.lt_of_lt_of_le hb.2 hy4⟩) (fun b hb => HB4.out.block b hb.2))
        have HB4w := hide (HB2.out.trans (HB4.out.mono HB2.out.size))
        cases hdn : xs[k].Done with
        | false =>
          rw [hdn] at HE3 HIt
          have HN := hide (show instV xs key (k + 1) = instV xs key k by rw [HSu.out, HIt.out]; simp)
          have e3 := HE3.out
          clear hdn
          by_cases h0 : 0 < L.length
          · have h0i : (0 : Int) < (L.length : Int) := by omega
            refine wp_loop_rounds 1 ?_
            rw [rounds_succ]
            go_wp2_with fail
            go_roundw
            case rel => exact ⟨k + 1, by omega, by go_num, by rw [HN.out]; exact HOs.out.mono (fun b hb => ⟨hb.1.1, hb.2⟩) (fun _ _ => rfl), HB4w.out⟩
            case measure => simp [intOf]; omega
          · have hz : L.length = 0 := by omega
            refine wp_loop_rounds 1 ?_
            rw [rounds_succ]
            go_wp2_with fail
            go_roundw
            case rel => exact ⟨k + 1, by omega, by go_num, by rw [HN.out]; exact HOs.out.mono (fun b hb => ⟨hb.1.1, hb.2⟩) (fun _ _ => rfl), HB4w.out⟩
            case measure => simp [intOf]; omega
        | true =>
          rw [hdn] at HE3 HIt
          have HN := hide (show instV xs key (k + 1) = instV xs key k ++ (lastW xs[k].Ops key).toList.map Op.Value by rw [HSu.out, HIt.out, if_pos rfl])
          clear hdn
          go_loopw [5, 8] (fun v i wr => ∃ l : Nat, l ≤ L.length ∧ i = .int .i64 l ∧ Hid (Own tInt 3 wr (fun b => (w.heap.size ≤ b ∧ ¬ (w2.heap.size ≤ b ∧ b < w4.heap.size)) ∧ Old wr b) (instV xs key k ++ ((L.take l).filter (fun o => o.Key == key)).map Op.Value) v) ∧ Hid (Only (fun b => w.heap.size ≤ b ∧ ¬ (w2.heap.size ≤ b ∧ b < w4.heap.size)) w4 wr)) (fun _ i _ => L.length - (intOf i).toNat)
          case atStart => exact ⟨0, Nat.zero_le _, rfl, (by have h9 := HOs.out; rw [← List.append_nil (instV xs key k)] at h9; exact h9), Only.refl _ _⟩
          case round =>
            obtain ⟨l, hl2, rfl, hO2, hOn2⟩ := hrel
            have HO2 := hide hO2.out; have HOw := hide hOn2.out
            clear hO2 hOn2 HOs
            have hzr := HOw.out.size
            have e3 := (World.cell?_of_block (w := w4) (a := ⟨b1, off1 + k * 3 + 2, none⟩) (HOw.out.block b1 (by omega) (fun h9 => by have := h9.1; omega))).trans HE3.out
            by_cases hlt2 : l < L.length
            · have hR6 := HR4.out.mono (w' := wr) (S' := Old wr) (fun b h => Nat.lt_of_lt_of_le h.2 HOw.out.size) (fun b h => HOw.out.block b h.2 (fun h9 => h9.2 h))
              obtain ⟨b4, off4, hA4, hbS4, x0, x1, x2⟩ := at_Op hR6 (Below.refl _ _) hlt2
              subst hA4
              have HSn := hide (filter_snoc7 L l hlt2 key)
              have hfl : ((L.take l).filter (fun o => o.Key == key)).length ≤ 3 := Nat.le_trans (List.length_filter_le _ _) (by rw [List.length_take]; omega)
              have hln : (instV xs key k ++ ((L.take l).filter (fun o => o.Key == key)).map Op.Value).length ≤ 9 := by rw [List.length_append, List.length_map]; omega
              generalize L[l] = o at x0 x1 x2 HSn
              obtain ⟨kd, ky, vl⟩ := o
              dsimp only at x0 x1 x2 HSn
              have HKs := hide (show ∀ b, wr.heap.size ≤ b → w.heap.size ≤ b ∧ ¬ (w2.heap.size ≤ b ∧ b < w4.heap.size) from fun b hb => ⟨by omega, fun h9 => by omega⟩)
              clear hR6
              cases hkk : (ky == key) with
              | false =>
                rw [hkk] at HSn
                have HS2 := hide (show _ = ((L.take l).filter (fun o => o.Key == key)).map Op.Value from HSn.out.trans (by simp))
                clear HSn
                go_wp2_with fail
                go_roundw
                case rel => exact ⟨l + 1, by omega, by go_num, by rw [HS2.out]; exact HO2.out, HOw.out⟩
                case measure => simp [intOf]; omega
              | true =>
                rw [hkk] at HSn
                have HS2 := hide (show _ = ((L.take l).filter (fun o => o.Key == key)).map Op.Value ++ [vl] from HSn.out.trans (by simp))
                clear HSn
                go_wp2_with (at_builtin; refine wpList_put tInt rfl (.tmp 49) (.tmp 55) 23 rfl 3 i0 _ 8 Tryz.underlying23 hi_ hz0 hz1 hz2 rfl (by decide) (fun b => w.heap.size ≤ b ∧ ¬ (w2.heap.size ≤ b ∧ b < w4.heap.size)) (fun _ => False) (instV xs key k ++ ((L.take l).filter (fun o => o.Key == key)).map Op.Value) vl [.int .i64 vl] _ rfl HO2.out 1 rfl rfl (fun _ h => h.elim) HKs.out (by simp only [maxLen]; omega) (by omega) ?_; intro v6 w6 hO_ hK_; have HO6 := hide hO_; have HK6 := hide hK_; clear hO_ hK_)
                go_roundw
                case rel => exact ⟨l + 1, by omega, by go_num, by rw [HS2.out, ← List.append_assoc]; exact HO6.out, HOw.out.trans HK6.out⟩
                case measure => simp [intOf]; omega
            · obtain rfl : l = L.length := by omega
              have HO7 := hide (show Own tInt 3 wr (fun b => w.heap.size ≤ b ∧ Old wr b) (instV xs key (k + 1)) _ from by
                have h9 := HO2.out
                rw [List.take_length, HFi.out, ← HN.out] at h9
                exact h9.mono (fun b h => ⟨h.1.1, h.2⟩) (fun _ _ => rfl))
              have HB7 := hide (below_only HB4w.out HOw.out HB4w.out.size (fun i hi => hi.1))
              go_wp2_with fail
              go_roundw
              case rel => exact ⟨k + 1, by omega, by go_num, HO7.out, HB7.out⟩
              case measure => simp [intOf]; omega
      · obtain rfl : k = xs.length := by omega
        have HF := hide (show Own tInt 3 wr (New w wr) (insR xs key) _ from by rw [HR.out, HAll.out]; exact HO.out)
        go_wp2_with fail
        go_ret
        exact ⟨_, rfl, HF.out, HB.out⟩
end Go.Proofs.YtjiobgfaohldhaaGreat
