/- The program's ownErrors. -/
import Derived.Test.YtmlbfhknapkhgaaBadS
import Derived.Test.YtmlbfhknapkhgaaFirstI
namespace Go.Proofs.Ytmlbfhknapkhgaa
open Go.RowKit Go.Maps
set_option linter.unusedVariables false
set_option linter.unusedSimpArgs false

theorem zeroIntV (w : World) : (zeroValue 3).run Try.prog w = .ok (.int .i64 0) w := by kernel_rfl
noncomputable def intV : ElKit Try.prog 3 Int := intEl Try.underlying3 zeroIntV
/-- The value of the last operation on each key. -/
def valF (ops : List Op) (key : Int) : Option Int := (lastOn ops key).map Op.Value
theorem valF_snoc (ops : List Op) (l : Nat) (hl : l < ops.length) : valF (ops.take (l + 1)) = (fun key => if key = ops[l].Key then some ops[l].Value else valF (ops.take l) key) := by
  funext key
  unfold valF
  rw [lastOn_snoc ops l hl]
  by_cases hk : key = ops[l].Key
  · subst hk; simp
  · have hb : (ops[l].Key == key) = false := by rw [beq_eq_false_iff_ne]; exact fun e => hk e.symm
    rw [if_neg hk]
    simp only [hb, Bool.false_eq_true, if_false]
theorem errAt_none {ops : List Op} {l : Nat} {o : Op} (h : lastOn (ops.take l) o.Key = none) : errAt ops l o = false := by
  unfold errAt
  rw [beforeV_none h]
  simp
theorem errAt_some {ops : List Op} {l : Nat} {o q : Op} (h : lastOn (ops.take l) o.Key = some q) (h0 : 0 ≤ q.Value) : errAt ops l o = (o.Kind == 1 && q.Value != o.Value) := by
  unfold errAt
  rw [beforeV_some h, decide_eq_true h0, Bool.and_true]
set_option maxRecDepth 10000 in
set_option maxHeartbeats 4000000 in
theorem implOwnErrors (t : Txn) (who : Int) (A : Option Addr) (c : Nat) (w : World) (h6 : t.Ops.length ≤ 6) (hok : ∀ o ∈ t.Ops, opOk o = true) (hA : Row tOp w (Old w) A t.Ops) :
    Calls Try.prog 153 #[.int .i64 who, .agg #[.int .i64 t.Session, .slice A t.Ops.length c, .bool t.Done]] w fun e w' => ∃ v, e = .returned v ∧ Own tSpan 128 w' (New w w') (ownE who t.Ops t.Ops.length) v ∧ Below w.heap.size w w' := by
  obtain ⟨i0, hi, hz0, hz1, hz2⟩ := info_parts infoPlace_
  have hmm := @run_makeMap Try.prog
  have HA := hide hA; have HOk := hide hok
  have hq : t.Ops.length ≤ 9223372036854775807 := by omega
  obtain ⟨w1, hw1⟩ : ∃ w1, w1 = w.alloc (.cells #[.int .i64 t.Session, .slice A t.Ops.length c, .bool t.Done] 66) := ⟨_, rfl⟩
  have hs1 : w1.heap.size = w.heap.size + 1 := by rw [hw1]; simp
  obtain ⟨wo, hwo⟩ : ∃ wo, wo = (w1.alloc (.cells #[] 128)).alloc (.map #[] 0) := ⟨_, rfl⟩
  have hso : wo.heap.size = w.heap.size + 3 := by rw [hwo]; simp [hs1]
  have HB0 := hide (show Below w.heap.size w wo by rw [hwo, hw1]; exact (((Below.refl _ w).alloc (Nat.le_refl _) _).alloc (by simp) _).alloc (by simp; omega) _)
  have HO0 := hide (show Own tSpan 128 wo (fun b => (b = w.heap.size + 1 ∨ wo.heap.size ≤ b) ∧ Old wo b) (ownE who t.Ops 0) (.slice (some ⟨w.heap.size + 1, 0, none⟩) 0 0) by
    refine .inr ⟨w.heap.size + 1, 0, #[], fun _ => False, rfl, ⟨.inl rfl, by unfold Old; omega⟩, (show Blk wo _ _ _ by rw [hwo]; exact (show Blk (w1.alloc (.cells #[] 128)) (w.heap.size + 1) _ _ by rw [← hs1]; exact Blk.new w1 _ _).alloc _), by simp [ownE], by simp [maxLen], rfl, fun b h => h.elim, fun k hk => absurd hk (by simp [ownE])⟩)
  have HT0 := hide (show TabG keyI intV wo (w.heap.size + 2) 0 (valF (t.Ops.take 0)) by
    have h := TabG.made (KK := keyI) (EE := intV) (w1.alloc (.cells #[] 128))
    rw [World.size_alloc, hs1, ← hwo] at h
    exact h.congr (fun x _ => rfl))
  clear hA hok
  go_enter Try.func153, Try.ntmps153
  go_wp2
  simp only [← hw1]
  generalize hW : World.alloc _ _ = W
  have hWo : W = wo := hW.symm.trans hwo.symm
  rw [hWo]
  clear hW hWo hwo W
  go_loopw [5, 7, 8, 9, 10, 16] (fun v _ _ _ _ i wr => ∃ l m : Nat, l ≤ t.Ops.length ∧ i = .int .i64 l ∧ m ≤ l ∧ wo.heap.size ≤ wr.heap.size ∧ Hid (Own tSpan 128 wr (fun b => (b = w.heap.size + 1 ∨ wo.heap.size ≤ b) ∧ Old wr b) (ownE who t.Ops l) v) ∧ Hid (TabG keyI intV wr (w.heap.size + 2) m (valF (t.Ops.take l))) ∧ Hid (Below w.heap.size w wr)) (fun _ _ _ _ _ i _ => t.Ops.length - (intOf i).toNat)
  case atStart => exact ⟨0, 0, Nat.zero_le _, rfl, Nat.le_refl _, Nat.le_refl _, HO0.out, HT0.out, HB0.out⟩
  case round =>
    obtain ⟨l, m, hl, rfl, hm, hwz, hO, hT, hb⟩ := hrel
    clear HO0 HT0 HB0
    have HZ := hide hwz; have HSo := hide hso
    clear hwz hso hs1 hmm
    by_cases hlt : l < t.Ops.length
    · obtain ⟨b2, off2, rfl, hbS2, d0, d1, d2⟩ := at_Op HA.out hb.out hlt
      have hok := HOk.out _ (List.getElem_mem hlt)
      have hp := opOk_parts hok
      have hky : keyI.ok t.Ops[l].Key := wf_small (by omega) (by omega)
      have hvy : intV.ok t.Ops[l].Value := wf_small (by omega) (by omega)
      have HS := hide (valF_snoc t.Ops l hlt)
      have HF := hide (ownE_succ who t.Ops l hlt)
      have hfl := ownE_len who t.Ops l
      have HW := hide (fun W => reads_any t.Ops[l] W)
      have HX := hide (Blk.new wr 68 #[.int .i64 t.Ops[l].Kind, .int .i64 t.Ops[l].Key, .int .i64 t.Ops[l].Value])
      have HT := hide (hT.out.keep (w' := wr.alloc (.cells #[.int .i64 t.Ops[l].Kind, .int .i64 t.Ops[l].Key, .int .i64 t.Ops[l].Value] 68)) (Below.heap_alloc _ _ _ hT.out.lt))
      have HB := hide (hb.out.alloc hb.out.size (.cells #[.int .i64 t.Ops[l].Kind, .int .i64 t.Ops[l].Key, .int .i64 t.Ops[l].Value] 68))
      have HO := hide (hO.out.onlyBelow ((Below.refl _ wr).alloc (Nat.le_refl _) (.cells #[.int .i64 t.Ops[l].Kind, .int .i64 t.Ops[l].Key, .int .i64 t.Ops[l].Value] 68)))
      have HOr := hide hO.out
      clear hok hp hT hb hO
      cases hlo : lastOn (t.Ops.take l) t.Ops[l].Key with
      | none =>
        have HG := hide (show valF (t.Ops.take l) t.Ops[l].Key = none by unfold valF; rw [hlo]; rfl)
        have HEr := hide (errAt_none hlo)
        clear hlo
        cases hkd : (t.Ops[l].Kind == 1) with
        | false =>
          have HW := hide (show Calls Try.prog 140 _ _ _ from HW.out (wr.alloc (.cells #[.int .i64 t.Ops[l].Kind, .int .i64 t.Ops[l].Key, .int .i64 t.Ops[l].Value] 68)))
          rw [hkd] at HW
          clear hkd
          have HF2 := hide (show ownE who t.Ops (l + 1) = ownE who t.Ops l by rw [HF.out, HEr.out]; simp)
          clear HF
          go_wp2_with (first | (at_lookup; refine wpList_tab_look_ok (KK := keyI) (EE := intV) _ rfl (.tmp 22) (.tmp 24) 156 rfl Try.underlying156 (w.heap.size + 2) _ _ rfl HT.out t.Ops[l].Key hky rfl ?_; rw [HG.out]; dsimp only [intV, intEl, Option.getD_some, Option.getD_none, Option.isSome_some, Option.isSome_none]) | (go_at_call 140; refine HW.out.mono ?_; rintro e w2 ⟨rfl, hb2⟩; have HB2 := hide hb2; have hX2 := HX.out.below hb2 HX.out.lt; have x0 := hX2.cell 0; have x1 := hX2.cell 1; have x2 := hX2.cell 2; simp only [List.getElem?_toArray, List.getElem?_cons_zero, List.getElem?_cons_succ] at x0 x1 x2; have HT2 := hide (HT.out.keep (hb2.block _ HT.out.lt)); have HB3 := hide (HB.out.trans (hb2.mono HB.out.size)); have hz2 : wr.heap.size < w2.heap.size := hX2.lt; have HO2 := hide (HO.out.onlyBelow hb2); have HX2 := hide hX2; have HZ2 := hide (Nat.le_trans HZ.out (Nat.le_of_lt hz2)); clear hb2 hX2) | (at_mapUpdate; refine wpList_tab_put (KK := keyI) (EE := intV) _ rfl (.tmp 45) (.tmp 47) (.tmp 49) 156 rfl Try.underlying156 (w.heap.size + 2) m _ rfl HT2.out (by simp only [maxLen]; omega) t.Ops[l].Key hky t.Ops[l].Value hvy rfl rfl ?_; intro w3 hT3 hg3; have HT3 := hide hT3; have HG3 := hide hg3; clear hT3 hg3))
          go_roundw
          case rel => exact ⟨l + 1, m + 1, by omega, by go_num, by omega, Nat.le_trans HZ2.out HG3.out.size, by rw [HF2.out]; exact HO2.out.only (Only.of_grown HG3.out (K := fun b => b = w.heap.size + 2) (fun i hi => by injection hi with hi; exact hi.symm)) (fun b h => ⟨h.2, fun e => by have := h.1; have := HSo.out; omega⟩) |>.mono (fun b h => ⟨h.1, Nat.lt_of_lt_of_le h.2 HG3.out.size⟩) (fun _ _ => rfl), by rw [HS.out]; exact HT3.out, below_tab HB3.out HG3.out (by omega) HB3.out.size⟩
          case measure => simp [intOf]; omega
        | true =>
          have HW := hide (show Calls Try.prog 140 _ _ _ from HW.out (wr.alloc (.cells #[.int .i64 t.Ops[l].Kind, .int .i64 t.Ops[l].Key, .int .i64 t.Ops[l].Value] 68)))
          rw [hkd] at HW
          clear hkd
          have HF2 := hide (show ownE who t.Ops (l + 1) = ownE who t.Ops l by rw [HF.out, HEr.out]; simp)
          clear HF
          go_wp2_with (first | (at_lookup; refine wpList_tab_look_ok (KK := keyI) (EE := intV) _ rfl (.tmp 22) (.tmp 24) 156 rfl Try.underlying156 (w.heap.size + 2) _ _ rfl HT.out t.Ops[l].Key hky rfl ?_; rw [HG.out]; dsimp only [intV, intEl, Option.getD_some, Option.getD_none, Option.isSome_some, Option.isSome_none]) | (go_at_call 140; refine HW.out.mono ?_; rintro e w2 ⟨rfl, hb2⟩; have HB2 := hide hb2; have hX2 := HX.out.below hb2 HX.out.lt; have x0 := hX2.cell 0; have x1 := hX2.cell 1; have x2 := hX2.cell 2; simp only [List.getElem?_toArray, List.getElem?_cons_zero, List.getElem?_cons_succ] at x0 x1 x2; have HT2 := hide (HT.out.keep (hb2.block _ HT.out.lt)); have HB3 := hide (HB.out.trans (hb2.mono HB.out.size)); have hz2 : wr.heap.size < w2.heap.size := hX2.lt; have HO2 := hide (HO.out.onlyBelow hb2); have HX2 := hide hX2; have HZ2 := hide (Nat.le_trans HZ.out (Nat.le_of_lt hz2)); clear hb2 hX2) | (at_mapUpdate; refine wpList_tab_put (KK := keyI) (EE := intV) _ rfl (.tmp 45) (.tmp 47) (.tmp 49) 156 rfl Try.underlying156 (w.heap.size + 2) m _ rfl HT2.out (by simp only [maxLen]; omega) t.Ops[l].Key hky t.Ops[l].Value hvy rfl rfl ?_; intro w3 hT3 hg3; have HT3 := hide hT3; have HG3 := hide hg3; clear hT3 hg3))
          go_roundw
          case rel => exact ⟨l + 1, m + 1, by omega, by go_num, by omega, Nat.le_trans HZ2.out HG3.out.size, by rw [HF2.out]; exact HO2.out.only (Only.of_grown HG3.out (K := fun b => b = w.heap.size + 2) (fun i hi => by injection hi with hi; exact hi.symm)) (fun b h => ⟨h.2, fun e => by have := h.1; have := HSo.out; omega⟩) |>.mono (fun b h => ⟨h.1, Nat.lt_of_lt_of_le h.2 HG3.out.size⟩) (fun _ _ => rfl), by rw [HS.out]; exact HT3.out, below_tab HB3.out HG3.out (by omega) HB3.out.size⟩
          case measure => simp [intOf]; omega
      | some q =>
        have HG := hide (show valF (t.Ops.take l) t.Ops[l].Key = some q.Value by unfold valF; rw [hlo]; rfl)
        have hq0 := (opOk_parts (HOk.out q (List.mem_of_mem_take (lastOn_some hlo).1))).2.2.1
        have HEr := hide (errAt_some hlo hq0)
        clear hlo hq0
        cases hkd : (t.Ops[l].Kind == 1) with
        | false =>
          have HW := hide (show Calls Try.prog 140 _ _ _ from HW.out (wr.alloc (.cells #[.int .i64 t.Ops[l].Kind, .int .i64 t.Ops[l].Key, .int .i64 t.Ops[l].Value] 68)))
          rw [hkd] at HW HEr
          clear hkd
          have HF2 := hide (show ownE who t.Ops (l + 1) = ownE who t.Ops l by rw [HF.out, HEr.out]; simp)
          clear HF
          go_wp2_with (first | (at_lookup; refine wpList_tab_look_ok (KK := keyI) (EE := intV) _ rfl (.tmp 22) (.tmp 24) 156 rfl Try.underlying156 (w.heap.size + 2) _ _ rfl HT.out t.Ops[l].Key hky rfl ?_; rw [HG.out]; dsimp only [intV, intEl, Option.getD_some, Option.getD_none, Option.isSome_some, Option.isSome_none]) | (go_at_call 140; refine HW.out.mono ?_; rintro e w2 ⟨rfl, hb2⟩; have HB2 := hide hb2; have hX2 := HX.out.below hb2 HX.out.lt; have x0 := hX2.cell 0; have x1 := hX2.cell 1; have x2 := hX2.cell 2; simp only [List.getElem?_toArray, List.getElem?_cons_zero, List.getElem?_cons_succ] at x0 x1 x2; have HT2 := hide (HT.out.keep (hb2.block _ HT.out.lt)); have HB3 := hide (HB.out.trans (hb2.mono HB.out.size)); have hz2 : wr.heap.size < w2.heap.size := hX2.lt; have HO2 := hide (HO.out.onlyBelow hb2); have HX2 := hide hX2; have HZ2 := hide (Nat.le_trans HZ.out (Nat.le_of_lt hz2)); clear hb2 hX2) | (at_mapUpdate; refine wpList_tab_put (KK := keyI) (EE := intV) _ rfl (.tmp 45) (.tmp 47) (.tmp 49) 156 rfl Try.underlying156 (w.heap.size + 2) m _ rfl HT2.out (by simp only [maxLen]; omega) t.Ops[l].Key hky t.Ops[l].Value hvy rfl rfl ?_; intro w3 hT3 hg3; have HT3 := hide hT3; have HG3 := hide hg3; clear hT3 hg3))
          go_roundw
          case rel => exact ⟨l + 1, m + 1, by omega, by go_num, by omega, Nat.le_trans HZ2.out HG3.out.size, by rw [HF2.out]; exact HO2.out.only (Only.of_grown HG3.out (K := fun b => b = w.heap.size + 2) (fun i hi => by injection hi with hi; exact hi.symm)) (fun b h => ⟨h.2, fun e => by have := h.1; have := HSo.out; omega⟩) |>.mono (fun b h => ⟨h.1, Nat.lt_of_lt_of_le h.2 HG3.out.size⟩) (fun _ _ => rfl), by rw [HS.out]; exact HT3.out, below_tab HB3.out HG3.out (by omega) HB3.out.size⟩
          case measure => simp [intOf]; omega
        | true =>
          have HW := hide (show Calls Try.prog 140 _ _ _ from HW.out (wr.alloc (.cells #[.int .i64 t.Ops[l].Kind, .int .i64 t.Ops[l].Key, .int .i64 t.Ops[l].Value] 68)))
          rw [hkd] at HW HEr
          clear hkd
          cases hne : (q.Value != t.Ops[l].Value) with
          | false =>
            rw [hne] at HEr
            have HF2 := hide (show ownE who t.Ops (l + 1) = ownE who t.Ops l by rw [HF.out, HEr.out]; simp)
            clear HF
            go_wp2_with (first | (at_lookup; refine wpList_tab_look_ok (KK := keyI) (EE := intV) _ rfl (.tmp 22) (.tmp 24) 156 rfl Try.underlying156 (w.heap.size + 2) _ _ rfl HT.out t.Ops[l].Key hky rfl ?_; rw [HG.out]; dsimp only [intV, intEl, Option.getD_some, Option.getD_none, Option.isSome_some, Option.isSome_none]) | (go_at_call 140; refine HW.out.mono ?_; rintro e w2 ⟨rfl, hb2⟩; have HB2 := hide hb2; have hX2 := HX.out.below hb2 HX.out.lt; have x0 := hX2.cell 0; have x1 := hX2.cell 1; have x2 := hX2.cell 2; simp only [List.getElem?_toArray, List.getElem?_cons_zero, List.getElem?_cons_succ] at x0 x1 x2; have HT2 := hide (HT.out.keep (hb2.block _ HT.out.lt)); have HB3 := hide (HB.out.trans (hb2.mono HB.out.size)); have hz2 : wr.heap.size < w2.heap.size := hX2.lt; have HO2 := hide (HO.out.onlyBelow hb2); have HX2 := hide hX2; have HZ2 := hide (Nat.le_trans HZ.out (Nat.le_of_lt hz2)); clear hb2 hX2) | (at_mapUpdate; refine wpList_tab_put (KK := keyI) (EE := intV) _ rfl (.tmp 45) (.tmp 47) (.tmp 49) 156 rfl Try.underlying156 (w.heap.size + 2) m _ rfl HT2.out (by simp only [maxLen]; omega) t.Ops[l].Key hky t.Ops[l].Value hvy rfl rfl ?_; intro w3 hT3 hg3; have HT3 := hide hT3; have HG3 := hide hg3; clear hT3 hg3))
            go_roundw
            case rel => exact ⟨l + 1, m + 1, by omega, by go_num, by omega, Nat.le_trans HZ2.out HG3.out.size, by rw [HF2.out]; exact HO2.out.only (Only.of_grown HG3.out (K := fun b => b = w.heap.size + 2) (fun i hi => by injection hi with hi; exact hi.symm)) (fun b h => ⟨h.2, fun e => by have := h.1; have := HSo.out; omega⟩) |>.mono (fun b h => ⟨h.1, Nat.lt_of_lt_of_le h.2 HG3.out.size⟩) (fun _ _ => rfl), by rw [HS.out]; exact HT3.out, below_tab HB3.out HG3.out (by omega) HB3.out.size⟩
            case measure => simp [intOf]; omega
          | true =>
            rw [hne] at HEr
            have HF2 := hide (show ownE who t.Ops (l + 1) = ownE who t.Ops l ++ [⟨who, l⟩] by rw [HF.out, HEr.out]; rfl)
            clear HF
            go_upto_region 8 with (first | (at_lookup; refine wpList_tab_look_ok (KK := keyI) (EE := intV) _ rfl (.tmp 22) (.tmp 24) 156 rfl Try.underlying156 (w.heap.size + 2) _ _ rfl HT.out t.Ops[l].Key hky rfl ?_; rw [HG.out]; dsimp only [intV, intEl, Option.getD_some, Option.getD_none, Option.isSome_some, Option.isSome_none]) | (go_at_call 140; refine HW.out.mono ?_; rintro e w2 ⟨rfl, hb2⟩; have HB2 := hide hb2; have hX2 := HX.out.below hb2 HX.out.lt; have x0 := hX2.cell 0; have x1 := hX2.cell 1; have x2 := hX2.cell 2; simp only [List.getElem?_toArray, List.getElem?_cons_zero, List.getElem?_cons_succ] at x0 x1 x2; have HT2 := hide (HT.out.keep (hb2.block _ HT.out.lt)); have HB3 := hide (HB.out.trans (hb2.mono HB.out.size)); have hz2 : wr.heap.size < w2.heap.size := hX2.lt; have HO2 := hide (HO.out.onlyBelow hb2); have HX2 := hide hX2; have HZ2 := hide (Nat.le_trans HZ.out (Nat.le_of_lt hz2)); clear hb2 hX2))
            have HO5 := hide (show Own tSpan 128 w2 (fun b => ((b = w.heap.size + 1 ∨ wo.heap.size ≤ b) ∧ b ≠ wr.heap.size) ∧ Old w2 b) (ownE who t.Ops l) u5 from
              HOr.out.mono (fun b h => ⟨⟨h.1, by have := h.2; unfold Old at this; omega⟩, by have := h.2; unfold Old at *; omega⟩) (fun b h => (HB2.out.block b (Nat.lt_of_lt_of_le h.2 (by simp))).trans (Below.heap_alloc _ _ _ h.2)))
            clear HO HO2 HOr
            go_wp2_with (first | (at_builtin; refine wpList_put tSpan rfl (.tmp 39) (.tmp 43) 82 rfl 128 i0 _ 16 Try.underlying82 hi hz0 hz1 (by assumption) rfl (by decide) (fun b => (b = w.heap.size + 1 ∨ wo.heap.size ≤ b) ∧ b ≠ wr.heap.size) (fun _ => False) (ownE who t.Ops l) ⟨who, (l : Int)⟩ [.int .i64 who, .int .i64 l] _ rfl HO5.out 1 rfl rfl (fun _ h => h.elim) (fun b hb => ⟨.inr (Nat.le_trans HZ2.out hb), by omega⟩) (by simp only [maxLen]; omega) (by omega) ?_; intro v5 w5 hO_ hK_; have HO6 := hide hO_; have HK6 := hide hK_; have HT5 := hide (HT2.out.keep (hK_.block _ HT2.out.lt (by have := HSo.out; omega))); have hX5 := HX2.out.of (hK_.block _ HX2.out.lt (by omega)); have y0 := hX5.cell 0; have y1 := hX5.cell 1; have y2 := hX5.cell 2; simp only [List.getElem?_toArray, List.getElem?_cons_zero, List.getElem?_cons_succ] at y0 y1 y2; have hz5 : wr.heap.size < w5.heap.size := hX5.lt; clear hX5 hO_ hK_ x0 x1 x2) | (at_mapUpdate; refine wpList_tab_put (KK := keyI) (EE := intV) _ rfl (.tmp 45) (.tmp 47) (.tmp 49) 156 rfl Try.underlying156 (w.heap.size + 2) m _ rfl HT5.out (by simp only [maxLen]; omega) t.Ops[l].Key hky t.Ops[l].Value hvy rfl rfl ?_; intro w3 hT3 hg3; have HT3 := hide hT3; have HG3 := hide hg3; clear hT3 hg3))
            go_roundw
            case rel => exact ⟨l + 1, m + 1, by omega, by go_num, by omega, Nat.le_trans HZ2.out (Nat.le_trans HK6.out.size HG3.out.size), by rw [HF2.out]; exact HO6.out.only (Only.of_grown HG3.out (K := fun b => b = w.heap.size + 2) (fun i hi => by injection hi with hi; exact hi.symm)) (fun b h => ⟨h.2, fun e => by have := h.1.1; have := HSo.out; omega⟩) |>.mono (fun b h => ⟨h.1.1, Nat.lt_of_lt_of_le h.2 HG3.out.size⟩) (fun _ _ => rfl), by rw [HS.out]; exact HT3.out, below_tab (below_only HB3.out HK6.out HB3.out.size (fun i h => by have := HSo.out; omega)) HG3.out (by omega) (Nat.le_trans HB3.out.size HK6.out.size)⟩
            case measure => simp [intOf]; omega
    · obtain rfl : l = t.Ops.length := by omega
      have HO1 := hide hO.out
      have HB1 := hide hb.out
      clear hO hT hb
      go_wp2_with fail
      go_ret
      exact ⟨_, rfl, HO1.out.mono (fun b h => ⟨by have := h.1; have := HSo.out; omega, h.2⟩) (fun _ _ => rfl), HB1.out⟩
end Go.Proofs.Ytmlbfhknapkhgaa
