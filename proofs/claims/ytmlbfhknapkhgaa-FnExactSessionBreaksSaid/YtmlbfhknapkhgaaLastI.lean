/- The program's lastWrites and firstReads. -/
import Derived.Test.YtmlbfhknapkhgaaTab
import Derived.Test.YtmlbfhknapkhgaaHMath
import Derived.Test.YtmlbfhknapkhgaaPut
import Derived.Test.YtmlbfhknapkhgaaToB
import Derived.Test.YtmlbfhknapkhgaaHold
import Derived.Deep.RegionLaw
namespace Go.Proofs.Ytmlbfhknapkhgaa
open Go.RowKit Go.Maps
set_option linter.unusedVariables false

theorem zeroOpW (w : World) : (zeroValue 68).run Try.prog w = .ok (.agg #[.int .i64 0, .int .i64 0, .int .i64 0]) w := by kernel_rfl
theorem zeroBoolV (w : World) : (zeroValue 4).run Try.prog w = .ok (.bool false) w := by kernel_rfl
noncomputable def opE : ElKit Try.prog 68 Op := opEl zeroOpW
noncomputable def keyI : KeyKit Try.prog 3 Int := intKey Try.underlying3
noncomputable def boolV : ElKit Try.prog 4 Bool := boolEl Try.underlying4 zeroBoolV
def lastWk (ops : List Op) : Nat → List Op
  | 0 => []
  | k + 1 => lastWk ops k ++ (lastW ops (k : Int)).toList
theorem lastWk_len (ops : List Op) : ∀ k, (lastWk ops k).length ≤ k
  | 0 => Nat.le_refl _
  | k + 1 => by
    have := lastWk_len ops k
    rw [lastWk, List.length_append]
    cases lastW ops (k : Int) <;> simp [Option.toList] <;> omega
theorem lastWk_3 (ops : List Op) : lastWk ops 3 = lastWs ops := by
  simp [lastWk, lastWs]
set_option maxRecDepth 10000 in
set_option maxHeartbeats 2000000 in
theorem implLastWrites (t : Txn) (A : Option Addr) (c : Nat) (w : World) (h6 : t.Ops.length ≤ 6) (hok : ∀ o ∈ t.Ops, opOk o = true) (hA : Row tOp w (Old w) A t.Ops) :
    Calls Try.prog 98 #[.agg #[.int .i64 t.Session, .slice A t.Ops.length c, .bool t.Done]] w fun e w' => ∃ v, e = .returned v ∧ Own tOp 68 w' (New w w') (lastWs t.Ops) v ∧ Below w.heap.size w w' := by
  obtain ⟨i0, hi, hz0, hz1, hz2⟩ := info_parts infoOp_
  have hmm := @run_makeMap Try.prog
  have hmk : ∀ (W : World) (m : Nat), m ≤ 6 → (Instr.makeSlice 64 (.int .i64 0) (.int .i64 (m : Int))).run Try.prog W = .ok (.slice (some ⟨W.heap.size, 0, none⟩) 0 m) (W.alloc (.cells (madeCells (Value.cells (.agg #[.int .i64 0, .int .i64 0, .int .i64 0])) (m * 3)) 68)) := fun W m hm => by
    have h := run_make_rowN (P := Try.prog) 64 68 i0 _ Try.underlying64 hi hz0 .i64 .i64 0 m (Nat.zero_le _) (by rw [hz2]; omega) (by omega) W
    rw [hz1] at h
    exact h
  have HA := hide hA; have HOk := hide hok; have HMk := hide hmk
  have hq : t.Ops.length ≤ 9223372036854775807 := by omega
  have HBx := hide (Blk.new w 66 #[.int .i64 t.Session, .slice A t.Ops.length c, .bool t.Done])
  clear hA hok hmk
  go_enter Try.func98, Try.ntmps98
  go_wp2
  go_loopw [5, 14] (fun _ i wr => ∃ l m : Nat, l ≤ t.Ops.length ∧ i = .int .i64 l ∧ m ≤ l ∧ Hid (TabG keyI opE wr (w.heap.size + 1) m (lastW (t.Ops.take l))) ∧ Hid (Below w.heap.size w wr)) (fun _ i _ => t.Ops.length - (intOf i).toNat)
  case atStart =>
    have hm := TabG.made (KK := keyI) (EE := opE) (w.alloc (.cells #[.int .i64 t.Session, .slice A t.Ops.length c, .bool t.Done] 66))
    rw [World.size_alloc] at hm
    exact ⟨0, 0, Nat.zero_le _, rfl, Nat.le_refl _, hm.congr (fun x _ => rfl), ((Below.refl _ w).alloc (Nat.le_refl _) _).alloc (by simp) _⟩
  case round =>
    obtain ⟨l, m, hl, rfl, hm, hT, hb⟩ := hrel
    by_cases hlt : l < t.Ops.length
    · obtain ⟨b2, off2, rfl, hbS2, d0, d1, d2⟩ := at_Op HA.out hb.out hlt
      have hok := HOk.out _ (List.getElem_mem hlt)
      have hp := opOk_parts hok
      have hky : keyI.ok t.Ops[l].Key := wf_small (by omega) (by omega)
      have HS := hide (funext (fun key => lastW_snoc t.Ops l hlt key))
      have HW := hide (writes_any t.Ops[l] (wr.alloc (.cells #[.int .i64 t.Ops[l].Kind, .int .i64 t.Ops[l].Key, .int .i64 t.Ops[l].Value] 68)))
      have hX := (Blk.new wr 68 #[.int .i64 t.Ops[l].Kind, .int .i64 t.Ops[l].Key, .int .i64 t.Ops[l].Value])
      have HX := hide hX
      have HT := hide (hT.out.keep (w' := wr.alloc (.cells #[.int .i64 t.Ops[l].Kind, .int .i64 t.Ops[l].Key, .int .i64 t.Ops[l].Value] 68)) (Below.heap_alloc _ _ _ hT.out.lt))
      have HB := hide (hb.out.alloc hb.out.size (.cells #[.int .i64 t.Ops[l].Kind, .int .i64 t.Ops[l].Key, .int .i64 t.Ops[l].Value] 68))
      have hz1 : w.heap.size + 1 < wr.heap.size := hT.out.lt
      clear hok hp hmm hX hT hb
      cases hkd : (t.Ops[l].Kind == 2) with
      | false =>
        rw [hkd] at HW
        have HS2 := hide (show lastW (t.Ops.take (l + 1)) = lastW (t.Ops.take l) by rw [HS.out]; funext key; rw [hkd]; rfl)
        clear hkd HS
        go_wp2_with (go_at_call 111; refine HW.out.mono ?_; rintro e w2 ⟨rfl, hb2⟩; have HB2 := hide hb2; clear hb2)
        go_roundw
        case rel => exact ⟨l + 1, m, by omega, by go_num, by omega, by rw [HS2.out]; exact HT.out.keep (HB2.out.block _ HT.out.lt), HB.out.trans (HB2.out.mono HB.out.size)⟩
        case measure => simp [intOf]; omega
      | true =>
        rw [hkd] at HW
        have HS2 := hide (show lastW (t.Ops.take (l + 1)) = (fun key => if key = t.Ops[l].Key then some t.Ops[l] else lastW (t.Ops.take l) key) by
          rw [HS.out]; funext key; rw [hkd, Bool.true_and]
          by_cases hk : key = t.Ops[l].Key
          · subst hk; simp
          · rw [if_neg hk, if_neg (by simpa using fun e => hk e.symm)])
        clear hkd HS
        go_wp2_with (first | (go_at_call 111; refine HW.out.mono ?_; rintro e w2 ⟨rfl, hb2⟩; have HB2 := hide hb2; have hX2 := HX.out.below hb2 HX.out.lt; have x0 := hX2.cell 0; have x1 := hX2.cell 1; have x2 := hX2.cell 2; simp only [List.getElem?_toArray, List.getElem?_cons_zero, List.getElem?_cons_succ] at x0 x1 x2; have HT2 := hide (HT.out.keep (hb2.block _ HT.out.lt)); have HB3 := hide (HB.out.trans (hb2.mono HB.out.size)); have hz2 : wr.heap.size < w2.heap.size := hX2.lt; clear hb2 hX2) | (at_mapUpdate; refine wpList_tab_put (KK := keyI) (EE := opE) _ rfl (.tmp 20) (.tmp 22) (.tmp 23) 138 rfl Try.underlying138 (w.heap.size + 1) m _ rfl HT2.out (by simp only [maxLen]; omega) t.Ops[l].Key hky t.Ops[l] trivial rfl rfl ?_; intro w3 hT3 hg3; have HT3 := hide hT3; have HG3 := hide hg3; clear hT3 hg3))
        go_roundw
        case rel => exact ⟨l + 1, m + 1, by omega, by go_num, by omega, by rw [HS2.out]; exact HT3.out, below_tab HB3.out HG3.out (by omega) HB3.out.size⟩
        case measure => simp [intOf]; omega
    · obtain rfl : l = t.Ops.length := by omega
      have hT' := hT.out
      rw [List.take_length] at hT'
      obtain ⟨n, hn, hlen⟩ := hT'.map_len Try.underlying138
      have HT1 := hide hT'
      have HB1 := hide hb.out
      have hmk := fun W => HMk.out W n (by omega)
      have hn6 : n ≤ 6 := by omega
      obtain ⟨wo, hwo⟩ : ∃ wo : World, wo = wr := ⟨_, rfl⟩
      rw [← hwo] at HT1 HB1 hlen ⊢
      clear hT hb hwo hT'
      have HO0 := hide (Own.made (T := tOp) (e := 68) wo (S := fun b => wo.heap.size ≤ b ∧ Old (wo.alloc (.cells (madeCells (Value.cells (.agg #[.int .i64 0, .int .i64 0, .int .i64 0])) (n * 3)) 68)) b) (madeCells (Value.cells (.agg #[.int .i64 0, .int .i64 0, .int .i64 0])) (n * 3)) n (by rw [size_madeCells]; rfl) (by simp only [maxLen]; omega) ⟨Nat.le_refl _, by simp [Old]⟩)
      have HT0 := hide HT1.out.lt
      have HT2 := hide (HT1.out.keep (w' := wo.alloc (.cells (madeCells (Value.cells (.agg #[.int .i64 0, .int .i64 0, .int .i64 0])) (n * 3)) 68)) (Below.heap_alloc _ _ _ HT1.out.lt))
      have HB2 := hide (HB1.out.alloc HB1.out.size (.cells (madeCells (Value.cells (.agg #[.int .i64 0, .int .i64 0, .int .i64 0])) (n * 3)) 68))
      go_wp2
      clear hmk hlen
      clear HT1 HB1
      go_loopw [6, 7, 8, 9, 28] (fun v _ _ _ i wr => ∃ k : Nat, k ≤ 3 ∧ i = .int .i64 k ∧ wo.heap.size ≤ wr.heap.size ∧ Hid (Own tOp 68 wr (fun b => wo.heap.size ≤ b ∧ Old wr b) (lastWk t.Ops k) v) ∧ Hid (TabG keyI opE wr (w.heap.size + 1) m (lastW t.Ops)) ∧ Hid (Below w.heap.size w wr)) (fun _ _ _ _ i _ => 3 - (intOf i).toNat)
      case atStart => exact ⟨0, by omega, rfl, by simp, HO0.out, HT2.out, HB2.out⟩
      case round =>
        obtain ⟨k, hk, rfl, hwz, hO, hT, hb⟩ := hrel
        have HZ := hide hwz
        clear HO0 HT2 HB2 hwz
        by_cases hlt : k < 3
        · have hky : keyI.ok (k : Int) := wf_small (by omega) (by omega)
          have hl := lastWk_len t.Ops k
          have hk3 : decide ((k : Int) < 3) = true := decide_eq_true (by omega)
          have HT := hide hT.out; have HB := hide hb.out; have HO := hide hO.out
          clear hT hb hO
          cases hq2 : lastW t.Ops (k : Int) with
          | none =>
            have HS := hide (show lastWk t.Ops (k + 1) = lastWk t.Ops k by rw [lastWk, hq2]; simp [Option.toList])
            have HQ := hide hq2
            clear hq2
            go_wp2_with (at_lookup; refine wpList_tab_look_ok (KK := keyI) (EE := opE) _ rfl (.tmp 32) (.tmp 33) 138 rfl Try.underlying138 (w.heap.size + 1) _ _ rfl HT.out (k : Int) hky rfl ?_; rw [HQ.out]; dsimp only [opE, opEl, Option.getD_none, Option.isSome_none])
            go_roundw
            case rel => exact ⟨k + 1, by omega, by go_num, Nat.le_trans HZ.out (by simp), by rw [HS.out]; exact HO.out.onlyBelow ((Below.refl _ _).alloc (Nat.le_refl _) _), HT.out.keep (Below.heap_alloc _ _ _ HT.out.lt), HB.out.alloc HB.out.size _⟩
            case measure => simp [intOf]; omega
          | some o =>
            have HS := hide (show lastWk t.Ops (k + 1) = lastWk t.Ops k ++ [o] by rw [lastWk, hq2]; rfl)
            have HQ := hide hq2
            clear hq2
            go_upto_region 14 with (at_lookup; refine wpList_tab_look_ok (KK := keyI) (EE := opE) _ rfl (.tmp 32) (.tmp 33) 138 rfl Try.underlying138 (w.heap.size + 1) _ _ rfl HT.out (k : Int) hky rfl ?_; rw [HQ.out]; dsimp only [opE, opEl, Option.getD_some, Option.isSome_some])
            obtain ⟨W, hW⟩ : ∃ W, W = wr.alloc (.cells #[.int .i64 o.Kind, .int .i64 o.Key, .int .i64 o.Value] 68) := ⟨_, rfl⟩
            have HO2 := hide (show Own tOp 68 W (fun b => wo.heap.size ≤ b ∧ Old W b) (lastWk t.Ops k) u6 by rw [hW]; exact (HO.out.onlyBelow ((Below.refl _ wr).alloc (Nat.le_refl _) _)).mono (fun _ h => h) (fun _ _ => rfl))
            have HT2 := hide (show TabG keyI opE W (w.heap.size + 1) m (lastW t.Ops) by rw [hW]; exact (HT.out.keep (Below.heap_alloc _ _ _ HT.out.lt)).keep rfl)
            have HB2 := hide (show Below w.heap.size w W by rw [hW]; exact HB.out.alloc HB.out.size _)
            have HX := (show Blk W wr.heap.size 68 #[.int .i64 o.Kind, .int .i64 o.Key, .int .i64 o.Value] by rw [hW]; exact Blk.new wr _ _)
            have x0 := HX.cell 0; have x1 := HX.cell 1; have x2 := HX.cell 2
            simp only [List.getElem?_toArray, List.getElem?_cons_zero, List.getElem?_cons_succ] at x0 x1 x2
            have HZ2 := hide (show wo.heap.size ≤ W.heap.size by rw [hW]; exact Nat.le_trans HZ.out (by simp))
            have HZt := hide (show w.heap.size + 1 < wo.heap.size from HT0.out)
            rw [← hW]
            clear hW HX
            go_wp2_with (at_builtin; refine wpList_put tOp rfl (.tmp 38) (.tmp 40) 64 rfl 68 i0 _ 24 Try.underlying64 hi hz0 hz1 hz2 rfl (by decide) (fun b => wo.heap.size ≤ b) (fun _ => False) (lastWk t.Ops k) o [.int .i64 o.Kind, .int .i64 o.Key, .int .i64 o.Value] _ rfl HO2.out 1 rfl rfl (fun _ h => h.elim) (fun b hb => Nat.le_trans HZ2.out hb) (by simp only [maxLen]; omega) (by omega) ?_; intro v3 w3 hO_ hK_; have HO3 := hide hO_; have HK3 := hide hK_; clear hO_ hK_)
            all_goals
              go_wp2_with fail
              go_roundw
              case rel => exact ⟨k + 1, by omega, by go_num, Nat.le_trans HZ2.out HK3.out.size, by rw [HS.out]; exact HO3.out, HT2.out.keep (HK3.out.block _ HT2.out.lt (by have := HZt.out; omega)), below_only HB2.out HK3.out HB2.out.size (fun _ h => by have := HZt.out; omega)⟩
              case measure => simp [intOf]; omega
        · obtain rfl : k = 3 := by omega
          have hO3 := hO.out
          rw [lastWk_3] at hO3
          have HO1 := hide hO3
          have HB1 := hide hb.out
          have HT9 := hide HT0.out
          clear hO hO3 hT hb
          go_wp2_with fail
          go_ret
          exact ⟨_, rfl, HO1.out.mono (fun b h => ⟨by have := HT9.out; have := h.1; omega, h.2⟩) (fun _ _ => rfl), HB1.out⟩
end Go.Proofs.Ytmlbfhknapkhgaa
