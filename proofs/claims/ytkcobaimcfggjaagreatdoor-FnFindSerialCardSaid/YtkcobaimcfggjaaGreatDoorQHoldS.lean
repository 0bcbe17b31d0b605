/- The reference's l13Has, OwnErrors and BadReads (of the kind BadOwn). The reference's BadReads, of the kind BadOwn. The program's ownErrors. The program's BadReads, of the kind BadOwn. The cells of the state between transactions that see what was committed when they began. The program's snapshots.next. The program's SnapshotRight. The reference's l13Runs. The reference's SnapshotRight. Lists of lists of numbers in memory of the call's own that can be marked, each list in a block of its own. -/
import Derived.Test.YtkcobaimcfggjaaGreatDoorQDone
import Derived.Test.YtkcobaimcfggjaaGreatDoorQSearchM
import Derived.Test.YtkcobaimcfggjaaGreatDoorQHold
import Derived.BigQuiet
namespace Go.Proofs.YtkcobaimcfggjaaGreatDoor
open Go.RowKit Go.Maps
set_option linter.unusedVariables false
set_option linter.unusedSimpArgs false

theorem lastWs_len (ops : List Op) : (lastWs ops).length ≤ 3 := by rw [← lastWk_3]; exact lastWk_len ops 3
/-- The reads of a transaction that differ from what it did before. -/
def errAt (ops : List Op) (j : Nat) (o : Op) : Bool := o.Kind == 1 && decide (0 ≤ beforeV (ops.take j) o.Key) && (beforeV (ops.take j) o.Key != o.Value)
def ownE (who : Int) (ops : List Op) : Nat → List Span
  | 0 => []
  | j + 1 => ownE who ops j ++ (match ops[j]? with | some o => if errAt ops j o then [⟨who, j⟩] else [] | none => [])
theorem ownE_succ (who : Int) (ops : List Op) (j : Nat) (hj : j < ops.length) : ownE who ops (j + 1) = ownE who ops j ++ (if errAt ops j ops[j] then [⟨who, j⟩] else []) := by
  rw [ownE, List.getElem?_eq_getElem hj]
theorem ownE_len (who : Int) (ops : List Op) : ∀ j, (ownE who ops j).length ≤ j
  | 0 => Nat.le_refl _
  | j + 1 => by
    have := ownE_len who ops j
    rw [ownE, List.length_append]
    split
    · split <;> simp <;> omega
    · simp; omega
def ownEs (h : List Txn) : Nat → List Span
  | 0 => []
  | k + 1 => ownEs h k ++ (match h[k]? with | some t => ownE k t.Ops t.Ops.length | none => [])
theorem ownEs_succ (h : List Txn) (k : Nat) (hk : k < h.length) : ownEs h (k + 1) = ownEs h k ++ ownE k h[k].Ops h[k].Ops.length := by
  rw [ownEs, List.getElem?_eq_getElem hk]
theorem ownE_who (who : Int) (ops : List Op) : ∀ j, ∀ x ∈ ownE who ops j, x.From = who
  | 0, x, hx => by cases hx
  | j + 1, x, hx => by
    rw [ownE, List.mem_append] at hx
    rcases hx with hx | hx
    · exact ownE_who who ops j x hx
    · split at hx
      · split at hx
        · rw [List.mem_singleton.1 hx]
        · cases hx
      · cases hx
theorem infoPlace_ : (Tryz.prog.info? 134).map (fun i => (i.zero, i.size, i.bytes)) = some (some (.agg #[.int .i64 0, .int .i64 0]), 2, 16) := by kernel_rfl
def dnI (h : List Txn) (n : Int) : Bool := (h[n.toNat]?.map Txn.Done).getD false
def badS (h : List Txn) : List Span := (ownEs h h.length).filter fun x => dnI h x.From
theorem zeroIntV (w : World) : (zeroValue 3).run Tryz.prog w = .ok (.int .i64 0) w := by kernel_rfl
noncomputable def intV : ElKit Tryz.prog 3 Int := intEl Tryz.underlying3 zeroIntV
/-- The value of the last operation on each key. -/
def valF (ops : List Op) (key : Int) : Option Int := (lastOn ops key).map Op.Value
theorem valF_snoc (ops : List Op) (l : Nat) (hl : l < ops.length) : valF (ops.take (l + 1)) = (fun key => if key = ops[l].Key then some ops[l].Value else valF (ops.take l) key) := by
  funext key
  unfold valF
  rw [lastOn_snoc ops l hl]
  by_cases hk : key = ops[l].Key
  · subst hk; simp
  · have hb : (ops[l].Key == key) = false := by rw [beq_eq_false_iff_ne]; exact fun e => hk e.symm
    rw [if_neg hk]
    simp only [hb, Bool.false_eq_true, if_false]
theorem errAt_none {ops : List Op} {l : Nat} {o : Op} (h : lastOn (ops.take l) o.Key = none) : errAt ops l o = false := by
  unfold errAt
  rw [beforeV_none h]
  simp
theorem errAt_some {ops : List Op} {l : Nat} {o q : Op} (h : lastOn (ops.take l) o.Key = some q) (h0 : 0 ≤ q.Value) : errAt ops l o = (o.Kind == 1 && q.Value != o.Value) := by
  unfold errAt
  rw [beforeV_some h, decide_eq_true h0, Bool.and_true]
set_option maxRecDepth 10000 in
set_option maxHeartbeats 4000000 in
theorem implOwnErrors (t : Txn) (who : Int) (A : Option Addr) (c : Nat) (w : World) (h6 : t.Ops.length ≤ 6) (hok : ∀ o ∈ t.Ops, opOk o = true) (hA : Row tOp w (Old w) A t.Ops) :
    Calls Tryz.prog 128 #[.int .i64 who, .agg #[.int .i64 t.Session, .slice A t.Ops.length c, .bool t.Done]] w fun e w' => ∃ v, e = .returned v ∧ Own tSpan 134 w' (New w w') (ownE who t.Ops t.Ops.length) v ∧ Below w.heap.size w w' := by
  obtain ⟨i0, hi, hz0, hz1, hz2⟩ := info_parts infoPlace_
  have hmm := @run_makeMap Tryz.prog
  have HA := hide hA; have HOk := hide hok
  have hq : t.Ops.length ≤ 9223372036854775807 := by omega
  obtain ⟨w1, hw1⟩ : ∃ w1, w1 = w.alloc (.cells #[.int .i64 t.Session, .slice A t.Ops.length c, .bool t.Done] 38) := ⟨_, rfl⟩
  have hs1 : w1.heap.size = w.heap.size + 1 := by rw [hw1]; simp
  obtain ⟨wo, hwo⟩ : ∃ wo, wo = (w1.alloc (.cells #[] 134)).alloc (.map #[] 0) := ⟨_, rfl⟩
  have hso : wo.heap.size = w.heap.size + 3 := by rw [hwo]; simp [hs1]
  have HB0 := hide (show Below w.heap.size w wo by rw [hwo, hw1]; exact (((Below.refl _ w).alloc (Nat.le_refl _) _).alloc (by simp) _).alloc (by simp; omega) _)
  have HO0 := hide (show Own tSpan 134 wo (fun b => (b = w.heap.size + 1 ∨ wo.heap.size ≤ b) ∧ Old wo b) (ownE who t.Ops 0) (.slice (some ⟨w.heap.size + 1, 0, none⟩) 0 0) by
    refine .inr ⟨w.heap.size + 1, 0, #[], fun _ => False, rfl, ⟨.inl rfl, by unfold Old; omega⟩, (show Blk wo _ _ _ by rw [hwo]; exact (show Blk (w1.alloc (.cells #[] 134)) (w.heap.size + 1) _ _ by rw [← hs1]; exact Blk.new w1 _ _).alloc _), by simp [ownE], by simp [maxLen], rfl, fun b h => h.elim, fun k hk => absurd hk (by simp [ownE])⟩)
  have HT0 := hide (show TabG keyI intV wo (w.heap.size + 2) 0 (valF (t.Ops.take 0)) by
    have h := TabG.made (KK := keyI) (EE := intV) (w1.alloc (.cells #[] 134))
    rw [World.size_alloc, hs1, ← hwo] at h
    exact h.congr (fun x _ => rfl))
  clear hA hok
  go_enter Tryz.func128, Tryz.ntmps128
  go_wp2
  simp only [← hw1]
  generalize hW : World.alloc _ _ = W
  have hWo : W = wo := hW.symm.trans hwo.symm
  rw [hWo]
  clear hW hWo hwo W
  go_loopw [5, 7, 8, 9, 10, 16] (fun v _ _ _ _ i wr => ∃ l m : Nat, l ≤ t.Ops.length ∧ i = .int .i64 l ∧ m ≤ l ∧ wo.heap.size ≤ wr.heap.size ∧ Hid (Own tSpan 134 wr (fun b => (b = w.heap.size + 1 ∨ wo.heap.size ≤ b) ∧ Old wr b) (ownE who t.Ops l) v) ∧ Hid (TabG keyI intV wr (w.heap.size + 2) m (valF (t.Ops.take l))) ∧ Hid (Below w.heap.size w wr)) (fun _ _ _ _ _ i _ => t.Ops.length - (intOf i).toNat)
  case atStart => exact ⟨0, 0, Nat.zero_le _, rfl, Nat.le_refl _, Nat.le_refl _, HO0.out, HT0.out, HB0.out⟩
  case round =>
    obtain ⟨l, m, hl, rfl, hm, hwz, hO, hT, hb⟩ := hrel
    clear HO0 HT0 HB0
    have HZ := hide hwz; have HSo := hide hso
    clear hwz hso hs1 hmm
    by_cases hlt : l < t.Ops.length
    · obtain ⟨b2, off2, rfl, hbS2, d0, d1, d2⟩ := at_Op HA.out hb.out hlt
      have hok := HOk.out _ (List.getElem_mem hlt)
      have hp := opOk_parts hok
      have hky : keyI.ok t.Ops[l].Key := wf_small (by omega) (by omega)
      have hvy : intV.ok t.Ops[l].Value := wf_small (by omega) (by omega)
      have HS := hide (valF_snoc t.Ops l hlt)
      have HF := hide (ownE_succ who t.Ops l hlt)
      have hfl := ownE_len who t.Ops l
      have HW := hide (fun W => reads_any t.Ops[l] W)
      have HX := hide (Blk.new wr 73 #[.int .i64 t.Ops[l].Kind, .int .i64 t.Ops[l].Key, .int .i64 t.Ops[l].Value])
      have HT := hide (hT.out.keep (w' := wr.alloc (.cells #[.int .i64 t.Ops[l].Kind, .int .i64 t.Ops[l].Key, .int .i64 t.Ops[l].Value] 73)) (Below.heap_alloc _ _ _ hT.out.lt))
      have HB := hide (hb.out.alloc hb.out.size (.cells #[.int .i64 t.Ops[l].Kind, .int .i64 t.Ops[l].Key, .int .i64 t.Ops[l].Value] 73))
      have HO := hide (hO.out.onlyBelow ((Below.refl _ wr).alloc (Nat.le_refl _) (.cells #[.int .i64 t.Ops[l].Kind, .int .i64 t.Ops[l].Key, .int .i64 t.Ops[l].Value] 73)))
      have HOr := hide hO.out
      clear hok hp hT hb hO
      cases hlo : lastOn (t.Ops.take l) t.Ops[l].Key with
      | none =>
        have HG := hide (show valF (t.Ops.take l) t.Ops[l].Key = none by unfold valF; rw [hlo]; rfl)
        have HEr := hide (errAt_none hlo)
        clear hlo
        cases hkd : (t.Ops[l].Kind == 1) with
        | false =>
          have HW := hide (show Calls Tryz.prog 113 _ _ _ from HW.out (wr.alloc (.cells #[.int .i64 t.Ops[l].Kind, .int .i64 t.Ops[l].Key, .int .i64 t.Ops[l].Value] 73)))
          rw [hkd] at HW
          clear hkd
          have HF2 := hide (show ownE who t.Ops (l + 1) = ownE who t.Ops l by rw [HF.out, HEr.out]; simp)
          clear HF
          go_wp2_with (first | (at_lookup; refine wpList_tab_look_ok (KK := keyI) (EE := intV) _ rfl (.tmp 22) (.tmp 24) 161 rfl Tryz.underlying161 (w.heap.size + 2) _ _ rfl HT.out t.Ops[l].Key hky rfl ?_; rw [HG.out]; dsimp only [intV, intEl, Option.getD_some, Option.getD_none, Option.isSome_some, Option.isSome_none]) | (go_at_call 113; refine HW.out.mono ?_; rintro e w2 ⟨rfl, hb2⟩; have HB2 := hide hb2; have hX2 := HX.out.below hb2 HX.out.lt; have x0 := hX2.cell 0; have x1 := hX2.cell 1; have x2 := hX2.cell 2; simp only [List.getElem?_toArray, List.getElem?_cons_zero, List.getElem?_cons_succ] at x0 x1 x2; have HT2 := hide (HT.out.keep (hb2.block _ HT.out.lt)); have HB3 := hide (HB.out.trans (hb2.mono HB.out.size)); have hz2 : wr.heap.size < w2.heap.size := hX2.lt; have HO2 := hide (HO.out.onlyBelow hb2); have HX2 := hide hX2; have HZ2 := hide (Nat.le_trans HZ.out (Nat.le_of_lt hz2)); clear hb2 hX2) | (at_mapUpdate; refine wpList_tab_put (KK := keyI) (EE := intV) _ rfl (.tmp 45) (.tmp 47) (.tmp 49) 161 rfl Tryz.underlying161 (w.heap.size + 2) m _ rfl HT2.out (by simp only [maxLen]; omega) t.Ops[l].Key hky t.Ops[l].Value hvy rfl rfl ?_; intro w3 hT3 hg3; have HT3 := hide hT3; have HG3 := hide hg3; clear hT3 hg3))
          go_roundw
          case rel => exact ⟨l + 1, m + 1, by omega, by go_num, by omega, Nat.le_trans HZ2.out HG3.out.size, by rw [HF2.out]; exact HO2.out.only (Only.of_grown HG3.out (K := fun b => b = w.heap.size + 2) (fun i hi => by injection hi with hi; exact hi.symm)) (fun b h => ⟨h.2, fun e => by have := h.1; have := HSo.out; omega⟩) |>.mono (fun b h => ⟨h.1, Nat.lt_of_lt_of_le h.2 HG3.out.size⟩) (fun _ _ => rfl), by rw [HS.out]; exact HT3.out, below_tab HB3.out HG3.out (by omega) HB3.out.size⟩
          case measure => simp [intOf]; omega
        | true =>
          have HW := hide (show Calls Tryz.prog 113 _ _ _ from HW.out (wr.alloc (.cells #[.int .i64 t.Ops[l].Kind, .int .i64 t.Ops[l].Key, .int .i64 t.Ops[l].Value] 73)))
          rw [hkd] at HW
          clear hkd
          have HF2 := hide (show ownE who t.Ops (l + 1) = ownE who t.Ops l by rw [HF.out, HEr.out]; simp)
          clear HF
          go_wp2_with (first | (at_lookup; refine wpList_tab_look_ok (KK := keyI) (EE := intV) _ rfl (.tmp 22) (.tmp 24) 161 rfl Tryz.underlying161 (w.heap.size + 2) _ _ rfl HT.out t.Ops[l].Key hky rfl ?_; rw [HG.out]; dsimp only [intV, intEl, Option.getD_some, Option.getD_none, Option.isSome_some, Option.isSome_none]) | (go_at_call 113; refine HW.out.mono ?_; rintro e w2 ⟨rfl, hb2⟩; have HB2 := hide hb2; have hX2 := HX.out.below hb2 HX.out.lt; have x0 := hX2.cell 0; have x1 := hX2.cell 1; have x2 := hX2.cell 2; simp only [List.getElem?_toArray, List.getElem?_cons_zero, List.getElem?_cons_succ] at x0 x1 x2; have HT2 := hide (HT.out.keep (hb2.block _ HT.out.lt)); have HB3 := hide (HB.out.trans (hb2.mono HB.out.size)); have hz2 : wr.heap.size < w2.heap.size := hX2.lt; have HO2 := hide (HO.out.onlyBelow hb2); have HX2 := hide hX2; have HZ2 := hide (Nat.le_trans HZ.out (Nat.le_of_lt hz2)); clear hb2 hX2) | (at_mapUpdate; refine wpList_tab_put (KK := keyI) (EE := intV) _ rfl (.tmp 45) (.tmp 47) (.tmp 49) 161 rfl Tryz.underlying161 (w.heap.size + 2) m _ rfl HT2.out (by simp only [maxLen]; omega) t.Ops[l].Key hky t.Ops[l].Value hvy rfl rfl ?_; intro w3 hT3 hg3; have HT3 := hide hT3; have HG3 := hide hg3; clear hT3 hg3))
          go_roundw
          case rel => exact ⟨l + 1, m + 1, by omega, by go_num, by omega, Nat.le_trans HZ2.out HG3.out.size, by rw [HF2.out]; exact HO2.out.only (Only.of_grown HG3.out (K := fun b => b = w.heap.size + 2) (fun i hi => by injection hi with hi; exact hi.symm)) (fun b h => ⟨h.2, fun e => by have := h.1; have := HSo.out; omega⟩) |>.mono (fun b h => ⟨h.1, Nat.lt_of_lt_of_le h.2 HG3.out.size⟩) (fun _ _ => rfl), by rw [HS.out]; exact HT3.out, below_tab HB3.out HG3.out (by omega) HB3.out.size⟩
          case measure => simp [intOf]; omega
      | some q =>
        have HG := hide (show valF (t.Ops.take l) t.Ops[l].Key = some q.Value by unfold valF; rw [hlo]; rfl)
        have hq0 := (opOk_parts (HOk.out q (List.mem_of_mem_take (lastOn_some hlo).1))).2.2.1
        have HEr := hide (errAt_some hlo hq0)
        clear hlo hq0
        cases hkd : (t.Ops[l].Kind == 1) with
        | false =>
          have HW := hide (show Calls Tryz.prog 113 _ _ _ from HW.out (wr.alloc (.cells #[.int .i64 t.Ops[l].Kind, .int .i64 t.Ops[l].Key, .int .i64 t.Ops[l].Value] 73)))
          rw [hkd] at HW HEr
          clear hkd
          have HF2 := hide (show ownE who t.Ops (l + 1) = ownE who t.Ops l by rw [HF.out, HEr.out]; simp)
          clear HF
          go_wp2_with (first | (at_lookup; refine wpList_tab_look_ok (KK := keyI) (EE := intV) _ rfl (.tmp 22) (.tmp 24) 161 rfl Tryz.underlying161 (w.heap.size + 2) _ _ rfl HT.out t.Ops[l].Key hky rfl ?_; rw [HG.out]; dsimp only [intV, intEl, Option.getD_some, Option.getD_none, Option.isSome_some, Option.isSome_none]) | (go_at_call 113; refine HW.out.mono ?_; rintro e w2 ⟨rfl, hb2⟩; have HB2 := hide hb2; have hX2 := HX.out.below hb2 HX.out.lt; have x0 := hX2.cell 0; have x1 := hX2.cell 1; have x2 := hX2.cell 2; simp only [List.getElem?_toArray, List.getElem?_cons_zero, List.getElem?_cons_succ] at x0 x1 x2; have HT2 := hide (HT.out.keep (hb2.block _ HT.out.lt)); have HB3 := hide (HB.out.trans (hb2.mono HB.out.size)); have hz2 : wr.heap.size < w2.heap.size := hX2.lt; have HO2 := hide (HO.out.onlyBelow hb2); have HX2 := hide hX2; have HZ2 := hide (Nat.le_trans HZ.out (Nat.le_of_lt hz2)); clear hb2 hX2) | (at_mapUpdate; refine wpList_tab_put (KK := keyI) (EE := intV) _ rfl (.tmp 45) (.tmp 47) (.tmp 49) 161 rfl Tryz.underlying161 (w.heap.size + 2) m _ rfl HT2.out (by simp only [maxLen]; omega) t.Ops[l].Key hky t.Ops[l].Value hvy rfl rfl ?_; intro w3 hT3 hg3; have HT3 := hide hT3; have HG3 := hide hg3; clear hT3 hg3))
          go_roundw
          case rel => exact ⟨l + 1, m + 1, by omega, by go_num, by omega, Nat.le_trans HZ2.out HG3.out.size, by rw [HF2.out]; exact HO2.out.only (Only.of_grown HG3.out (K := fun b => b = w.heap.size + 2) (fun i hi => by injection hi with hi; exact hi.symm)) (fun b h => ⟨h.2, fun e => by have := h.1; have := HSo.out; omega⟩) |>.mono (fun b h => ⟨h.1, Nat.lt_of_lt_of_le h.2 HG3.out.size⟩) (fun _ _ => rfl), by rw [HS.out]; exact HT3.out, below_tab HB3.out HG3.out (by omega) HB3.out.size⟩
          case measure => simp [intOf]; omega
        | true =>
          have HW := hide (show Calls Tryz.prog 113 _ _ _ from HW.out (wr.alloc (.cells #[.int .i64 t.Ops[l].Kind, .int .i64 t.Ops[l].Key, .int .i64 t.Ops[l].Value] 73)))
          rw [hkd] at HW HEr
          clear hkd
          cases hne : (q.Value != t.Ops[l].Value) with
          | false =>
            rw [hne] at HEr
            have HF2 := hide (show ownE who t.Ops (l + 1) = ownE who t.Ops l by rw [HF.out, HEr.out]; simp)
            clear HF
            go_wp2_with (first | (at_lookup; refine wpList_tab_look_ok (KK := keyI) (EE := intV) _ rfl (.tmp 22) (.tmp 24) 161 rfl Tryz.underlying161 (w.heap.size + 2) _ _ rfl HT.out t.Ops[l].Key hky rfl ?_; rw [HG.out]; dsimp only [intV, intEl, Option.getD_some, Option.getD_none, Option.isSome_some, Option.isSome_none]) | (go_at_call 113; refine HW.out.mono ?_; rintro e w2 ⟨rfl, hb2⟩; have HB2 := hide hb2; have hX2 := HX.out.below hb2 HX.out.lt; have x0 := hX2.cell 0; have x1 := hX2.cell 1; have x2 := hX2.cell 2; simp only [List.getElem?_toArray, List.getElem?_cons_zero, List.getElem?_cons_succ] at x0 x1 x2; have HT2 := hide (HT.out.keep (hb2.block _ HT.out.lt)); have HB3 := hide (HB.out.trans (hb2.mono HB.out.size)); have hz2 : wr.heap.size < w2.heap.size := hX2.lt; have HO2 := hide (HO.out.onlyBelow hb2); have HX2 := hide hX2; have HZ2 := hide (Nat.le_trans HZ.out (Nat.le_of_lt hz2)); clear hb2 hX2) | (at_mapUpdate; refine wpList_tab_put (KK := keyI) (EE := intV) _ rfl (.tmp 45) (.tmp 47) (.tmp 49) 161 rfl Tryz.underlying161 (w.heap.size + 2) m _ rfl HT2.out (by simp only [maxLen]; omega) t.Ops[l].Key hky t.Ops[l].Value hvy rfl rfl ?_; intro w3 hT3 hg3; have HT3 := hide hT3; have HG3 := hide hg3; clear hT3 hg3))
            go_roundw
            case rel => exact ⟨l + 1, m + 1, by omega, by go_num, by omega, Nat.le_trans HZ2.out HG3.out.size, by rw [HF2.out]; exact HO2.out.only (Only.of_grown HG3.out (K := fun b => b = w.heap.size + 2) (fun i hi => by injection hi with hi; exact hi.symm)) (fun b h => ⟨h.2, fun e => by have := h.1; have := HSo.out; omega⟩) |>.mono (fun b h => ⟨h.1, Nat.lt_of_lt_of_le h.2 HG3.out.size⟩) (fun _ _ => rfl), by rw [HS.out]; exact HT3.out, below_tab HB3.out HG3.out (by omega) HB3.out.size⟩
            case measure => simp [intOf]; omega
          | true =>
            rw [hne] at HEr
            have HF2 := hide (show ownE who t.Ops (l + 1) = ownE who t.Ops l ++ [⟨who, l⟩] by rw [HF.out, HEr.out]; rfl)
            clear HF
            go_upto_region 8 with (first | (at_lookup; refine wpList_tab_look_ok (KK := keyI) (EE := intV) _ rfl (.tmp 22) (.tmp 24) 161 rfl Tryz.underlying161 (w.heap.size + 2) _ _ rfl HT.out t.Ops[l].Key hky rfl ?_; rw [HG.out]; dsimp only [intV, intEl, Option.getD_some, Option.getD_none, Option.isSome_some, Option.isSome_none]) | (go_at_call 113; refine HW.out.mono ?_; rintro e w2 ⟨rfl, hb2⟩; have HB2 := hide hb2; have hX2 := HX.out.below hb2 HX.out.lt; have x0 := hX2.cell 0; have x1 := hX2.cell 1; have x2 := hX2.cell 2; simp only [List.getElem?_toArray, List.getElem?_cons_zero, List.getElem?_cons_succ] at x0 x1 x2; have HT2 := hide (HT.out.keep (hb2.block _ HT.out.lt)); have HB3 := hide (HB.out.trans (hb2.mono HB.out.size)); have hz2 : wr.heap.size < w2.heap.size := hX2.lt; have HO2 := hide (HO.out.onlyBelow hb2); have HX2 := hide hX2; have HZ2 := hide (Nat.le_trans HZ.out (Nat.le_of_lt hz2)); clear hb2 hX2))
            have HO5 := hide (show Own tSpan 134 w2 (fun b => ((b = w.heap.size + 1 ∨ wo.heap.size ≤ b) ∧ b ≠ wr.heap.size) ∧ Old w2 b) (ownE who t.Ops l) u5 from
              HOr.out.mono (fun b h => ⟨⟨h.1, by have := h.2; unfold Old at this; omega⟩, by have := h.2; unfold Old at *; omega⟩) (fun b h => (HB2.out.block b (Nat.lt_of_lt_of_le h.2 (by simp))).trans (Below.heap_alloc _ _ _ h.2)))
            clear HO HO2 HOr
            go_wp2_with (first | (at_builtin; refine wpList_put tSpan rfl (.tmp 39) (.tmp 43) 83 rfl 134 i0 _ 16 Tryz.underlying83 hi hz0 hz1 (by assumption) rfl (by decide) (fun b => (b = w.heap.size + 1 ∨ wo.heap.size ≤ b) ∧ b ≠ wr.heap.size) (fun _ => False) (ownE who t.Ops l) ⟨who, (l : Int)⟩ [.int .i64 who, .int .i64 l] _ rfl HO5.out 1 rfl rfl (fun _ h => h.elim) (fun b hb => ⟨.inr (Nat.le_trans HZ2.out hb), by omega⟩) (by simp only [maxLen]; omega) (by omega) ?_; intro v5 w5 hO_ hK_; have HO6 := hide hO_; have HK6 := hide hK_; have HT5 := hide (HT2.out.keep (hK_.block _ HT2.out.lt (by have := HSo.out; omega))); have hX5 := HX2.out.of (hK_.block _ HX2.out.lt (by omega)); have y0 := hX5.cell 0; have y1 := hX5.cell 1; have y2 := hX5.cell 2; simp only [List.getElem?_toArray, List.getElem?_cons_zero, List.getElem?_cons_succ] at y0 y1 y2; have hz5 : wr.heap.size < w5.heap.size := hX5.lt; clear hX5 hO_ hK_ x0 x1 x2) | (at_mapUpdate; refine wpList_tab_put (KK := keyI) (EE := intV) _ rfl (.tmp 45) (.tmp 47) (.tmp 49) 161 rfl Tryz.underlying161 (w.heap.size + 2) m _ rfl HT5.out (by simp only [maxLen]; omega) t.Ops[l].Key hky t.Ops[l].Value hvy rfl rfl ?_; intro w3 hT3 hg3; have HT3 := hide hT3; have HG3 := hide hg3; clear hT3 hg3))
            go_roundw
            case rel => exact ⟨l + 1, m + 1, by omega, by go_num, by omega, Nat.le_trans HZ2.out (Nat.le_trans HK6.out.size HG3.out.size), by rw [HF2.out]; exact HO6.out.only (Only.of_grown HG3.out (K := fun b => b = w.heap.size + 2) (fun i hi => by injection hi with hi; exact hi.symm)) (fun b h => ⟨h.2, fun e => by have := h.1.1; have := HSo.out; omega⟩) |>.mono (fun b h => ⟨h.1.1, Nat.lt_of_lt_of_le h.2 HG3.out.size⟩) (fun _ _ => rfl), by rw [HS.out]; exact HT3.out, below_tab (below_only HB3.out HK6.out HB3.out.size (fun i h => by have := HSo.out; omega)) HG3.out (by omega) (Nat.le_trans HB3.out.size HK6.out.size)⟩
            case measure => simp [intOf]; omega
    · obtain rfl : l = t.Ops.length := by omega
      have HO1 := hide hO.out
      have HB1 := hide hb.out
      clear hO hT hb
      go_wp2_with fail
      go_ret
      exact ⟨_, rfl, HO1.out.mono (fun b h => ⟨by have := h.1; have := HSo.out; omega, h.2⟩) (fun _ _ => rfl), HB1.out⟩
def badL (h : List Txn) (l : List Int) : List Span := l.flatMap fun n => ownE n (opsOf h n) (opsOf h n).length
theorem badL_take (h : List Txn) (l : List Int) (k : Nat) (hk : k < l.length) : badL h (l.take (k + 1)) = badL h (l.take k) ++ ownE l[k] (opsOf h l[k]) (opsOf h l[k]).length := by
  unfold badL
  rw [List.take_succ_eq_append_getElem hk, List.flatMap_append]
  simp
theorem opsOf_nat {h : List Txn} {n : Nat} (hn : n < h.length) : opsOf h (n : Int) = h[n].Ops := by
  unfold opsOf
  rw [Int.toNat_natCast, List.getElem?_eq_getElem hn]; rfl
theorem badL_len {h : List Txn} (hv : ∀ t ∈ h, t.Ops.length ≤ 6) : ∀ (l : List Int), (badL h l).length ≤ 6 * l.length
  | [] => Nat.le_refl _
  | n :: r => by
    have h1 := badL_len hv r
    unfold badL at h1 ⊢
    rw [List.flatMap_cons, List.length_append, List.length_cons]
    have h2 := ownE_len n (opsOf h n) (opsOf h n).length
    have h3 : (opsOf h n).length ≤ 6 := by
      unfold opsOf
      cases hh : h[n.toNat]? with
      | none => simp
      | some t => exact hv t (List.mem_of_getElem? hh)
    omega
theorem bad_same (h : List Txn) : ∀ k, k ≤ h.length → (ownEs h k).filter (fun x => dnI h x.From) = badL h (doneI h k)
  | 0, _ => rfl
  | k + 1, hk => by
    rw [ownEs_succ h k (by omega), List.filter_append, bad_same h k (by omega), doneI_succ h k (by omega)]
    have hd : dnI h (k : Int) = h[k].Done := by unfold dnI; rw [Int.toNat_natCast, List.getElem?_eq_getElem (by omega)]; rfl
    have hf : (ownE k h[k].Ops h[k].Ops.length).filter (fun x => dnI h x.From) = if h[k].Done then ownE k h[k].Ops h[k].Ops.length else [] := by
      split
      · rename_i h1
        exact List.filter_eq_self.2 fun x hx => by rw [ownE_who _ _ _ x hx, hd, h1]
      · rename_i h1
        exact List.filter_eq_nil_iff.2 fun x hx => by rw [ownE_who _ _ _ x hx, hd]; simpa using h1
    rw [hf]
    unfold badL
    rw [List.flatMap_append]
    congr 1
    split
    · simp [opsOf_nat (h := h) (n := k) (by omega)]
    · rfl
theorem badS_eq (h : List Txn) : badS h = badL h (doneL h) := bad_same h h.length (Nat.le_refl _)
set_option maxRecDepth 10000 in
set_option maxHeartbeats 2000000 in
theorem implBadOwn (xs : List Txn) (A : Option Addr) (c : Nat) (w : World) (hv : histV xs = true) (hm : xs.length ≤ maxLen) (hA : Row tTxn w (Old w) A xs) :
    Calls Tryz.prog 67 #[.slice A xs.length c, .int .i64 4] w fun e w' => ∃ v, e = .returned v ∧ Sl tSpan w' (New w w') (badS xs) v ∧ Below w.heap.size w w' := by
  obtain ⟨i0, hi, hz0, hz1, hz2⟩ := info_parts infoPlace_
  have hx6 : xs.length ≤ 6 := (histV_parts hv).1
  have hmk : ∀ (W : World), (Instr.makeSlice 83 (.int .i64 0) (.int .i64 0)).run Tryz.prog W = .ok (.slice (some ⟨W.heap.size, 0, none⟩) 0 0) (W.alloc (.cells (madeCells (Value.cells (.agg #[.int .i64 0, .int .i64 0])) (0 * 2)) 134)) := fun W => by
    have h := run_make_rowN (P := Tryz.prog) 83 134 i0 _ Tryz.underlying83 hi hz0 .i64 .i64 0 0 (Nat.zero_le _) (by rw [hz2]; omega) (by omega) W
    rw [hz1] at h
    exact h
  have HC1 := hide (implHistoryValid xs A c w hm hA)
  have HDn := hide (fun (W : World) (hb : Below w.heap.size w W) => implDone xs A c W (by omega) (hA.old hb))
  have HV := hide (histV_parts hv).2
  have HLn := hide (fun l => badL_len (h := xs) (fun t ht => (txnOk_parts ((histV_parts hv).2 t ht)).2) l)
  have HQ := hide (badS_eq xs)
  have HA := hide hA
  have hq : xs.length ≤ 9223372036854775807 := by simpa [maxLen] using hm
  rw [hv] at HC1
  have HMem := hide (fun x (hx : x ∈ doneL xs) => doneI_mem xs _ x hx)
  have hdl : (doneL xs).length ≤ 6 := Nat.le_trans (doneI_len xs _) hx6
  clear hA hm hv
  generalize doneL xs = D at HDn HQ HMem hdl
  have hqD : D.length ≤ 9223372036854775807 := by omega
  go_enter Tryz.func67, Tryz.ntmps67
  go_upto_region 4 with (first | (go_at_call 66; refine HC1.out.mono ?_; rintro e w2 ⟨rfl, hb2⟩; have HB2 := hide hb2; clear hb2) | (go_at_call 81; refine (within _ _ _ _).mono ?_; rintro e w' ⟨rfl, rfl⟩))
  generalize hW : World.alloc _ _ = W
  have HB3 := hide (show Below w.heap.size w W by rw [← hW]; exact HB2.out.alloc HB2.out.size _)
  have hsW : W.heap.size = w2.heap.size + 1 := by rw [← hW]; simp
  have hw2 := HB2.out.size
  have HBk := hide (show Blk W w2.heap.size 134 #[] by rw [← hW]; have h0 : ∀ z : Array Value, madeCells z 0 = #[] := fun z => Array.eq_empty_of_size_eq_zero (by rw [size_madeCells]); rw [h0]; exact Blk.new w2 _ _)
  clear hW hmk
  go_wp2_with (go_at_call 52; refine (HDn.out _ HB3.out).mono ?_; rintro e w3 ⟨v3, rfl, hO3, hb3⟩; obtain ⟨A3, c3, rfl, h31, h32, _⟩ := hO3.sl; have HR3 := hide hO3.sl.row; have HB4 := hide (HB3.out.trans (hb3.mono HB3.out.size)); have HBk3 := hide (HBk.out.below hb3 HBk.out.lt); have hw3 := hb3.size; clear hO3 hb3)
  go_loopw [5, 7, 22] (fun v _ i wr => ∃ k : Nat, k ≤ D.length ∧ i = .int .i64 k ∧ Hid (Own tSpan 134 wr (fun b => (b = w2.heap.size ∨ w3.heap.size ≤ b) ∧ Old wr b) (badL xs (D.take k)) v) ∧ Hid (Below w.heap.size w wr) ∧ Hid (Only (fun b => b = w2.heap.size ∨ w3.heap.size ≤ b) w3 wr)) (fun _ _ i _ => D.length - (intOf i).toNat)
  case atStart => exact ⟨0, by omega, rfl, .inr ⟨w2.heap.size, 0, #[], fun _ => False, rfl, ⟨.inl rfl, HBk3.out.lt⟩, HBk3.out, by simp [badL], by simp [maxLen], rfl, fun _ h => h.elim, fun j hj => absurd hj (by simp [badL])⟩, HB4.out, Only.refl _ _⟩
  case round =>
    obtain ⟨k, hk, rfl, hO, hb, hK⟩ := hrel
    have HO := hide hO.out; have HB := hide hb.out; have HK := hide hK.out
    have hR := HR3.out.mono (w' := wr) (S' := Old wr) (fun b h => Nat.lt_of_lt_of_le h.2 hK.out.size) (fun b h => hK.out.block b h.2 (by have h1 := h.1; have h2 := h.2; omega))
    clear hO hb hK
    by_cases hlt : k < D.length
    · obtain ⟨b0, off0, hA3, hbS0, e0⟩ := at_Int hR (Below.refl _ _) hlt
      subst hA3
      obtain ⟨hn0, hn1⟩ := HMem.out _ (List.getElem_mem hlt)
      obtain ⟨n, hn⟩ : ∃ n : Nat, D[k] = (n : Int) := ⟨D[k].toNat, by omega⟩
      have hnl : n < xs.length := by omega
      have HS := hide (show badL xs (D.take (k + 1)) = badL xs (D.take k) ++ ownE n xs[n].Ops xs[n].Ops.length by rw [badL_take xs D k hlt, hn, opsOf_nat hnl])
      have hfl : (badL xs (D.take k)).length ≤ 6 * k := Nat.le_trans (HLn.out _) (by rw [List.length_take]; omega)
      rw [hn] at e0
      obtain ⟨b, off, A2, c2, hA2, hbS, d0, d1, d3, hj1, hj2, hj3⟩ := at_Txn HA.out HB.out hnl
      subst hA2
      have htx := HV.out _ (List.getElem_mem hnl)
      have ho6 := (txnOk_parts htx).2
      have hel := ownE_len (n : Int) xs[n].Ops xs[n].Ops.length
      have HE := hide (implOwnErrors xs[n] n A2 c2 wr ho6 (txnOk_parts htx).1 hj3)
      have hz3 := HK.out.size
      clear hR hn hn0 hn1 htx hj3
      generalize ownE (n : Int) xs[n].Ops xs[n].Ops.length = E at HE HS hel
      go_wp2_with (first | (go_at_call 128; refine HE.out.mono ?_; rintro e w5 ⟨v5, rfl, hO5, hb5⟩; obtain ⟨A5, c5, rfl, h51, h52, h53⟩ := hO5.sl; have HR5 := hide h53; have HO5 := hide (HO.out.onlyBelow hb5); have HL5 := hide (own_lt (B := wr.heap.size) HO.out (fun b h => h.2)); have HB5 := hide (HB.out.trans (hb5.mono HB.out.size)); have HK5 := hide (HK.out.trans (Only.of_below hb5)); have hz5 := hb5.size; clear hO5 hb5 h53) | (at_builtin; refine wpList_cat tSpan rfl (.tmp 28) (.tmp 34) 83 rfl 134 i0 _ 16 Tryz.underlying83 hi hz0 hz1 (by assumption) rfl (by decide) (fun b => b = w2.heap.size ∨ w3.heap.size ≤ b) (fun _ => False) (badL xs (D.take k)) E _ rfl HO5.out A5 _ c5 rfl rfl HR5.out.anySpan (fun _ h => h.elim) (fun b hb => .inr (by omega)) (by simp only [maxLen]; omega) (by omega) ?_; intro v6 w6 hO_ hK_; have HO6 := hide hO_; have HK6 := hide hK_; clear hO_ hK_))
      go_roundw
      case rel => exact ⟨k + 1, by omega, by go_num, by rw [HS.out]; exact HO6.out, below_only HB5.out HK6.out HB5.out.size (fun i h => by omega), HK5.out.trans HK6.out⟩
      case measure => simp [intOf]; omega
    · obtain rfl : k = D.length := by omega
      have HO1 := hide (show Own tSpan 134 wr (fun b => (b = w2.heap.size ∨ w3.heap.size ≤ b) ∧ Old wr b) (badS xs) u5 by have := HO.out; rw [List.take_length] at this; rw [HQ.out]; exact this)
      obtain ⟨A7, c7, rfl, h71, h72, _⟩ := HO1.out.sl
      clear HO hR
      go_wp2_with fail
      go_ret
      exact ⟨_, rfl, ⟨A7, _, rfl, Nat.le_refl _, Nat.le_trans h71 h72, HO1.out.sl.row.mono (fun b h => ⟨by have := h.1; omega, h.2⟩) (fun _ _ => rfl)⟩, HB.out⟩
/-- Committed transactions read what they did themselves. -/
def fineB (h : List Txn) : Bool := (badS h).length == 0
end Go.Proofs.YtkcobaimcfggjaaGreatDoor
namespace Go.Proofs.YtkcobaimcfggjaaGreatDoor
open Go.RowKit Go.Maps
set_option linter.unusedVariables false
set_option linter.unusedSimpArgs false

/-! ### Bits -/
def Bits1 (bg : Nat) (seen : List Int) : Prop := bg < 64 ∧ ∀ j : Nat, bg.testBit j = decide (1 ≤ seen.count (j : Int))
def Bits2 (cm : Nat) (seen : List Int) : Prop := cm < 64 ∧ ∀ j : Nat, cm.testBit j = decide (2 ≤ seen.count (j : Int))
theorem count_snoc (seen : List Int) (n m : Int) : (seen ++ [n]).count m = seen.count m + (if m = n then 1 else 0) := by
  rw [List.count_append]
  congr 1
  by_cases h : m = n
  · subst h; simp
  · rw [if_neg h]; exact List.count_eq_zero.2 (by simpa using h)
theorem Bits1.first {bg : Nat} {seen : List Int} (h : Bits1 bg seen) (n : Nat) (hn : n < 6) : Bits1 (bg ||| 2 ^ n) (seen ++ [(n : Int)]) := by
  refine ⟨Nat.or_lt_two_pow (n := 6) h.1 (pow6 hn), fun j => ?_⟩
  rw [Nat.testBit_or, h.2 j, Nat.testBit_two_pow, count_snoc, Bool.eq_iff_iff]
  simp only [Bool.or_eq_true, decide_eq_true_eq]
  by_cases hjn : j = n
  · subst hjn; simp
  · rw [if_neg (by omega)]; omega
theorem Bits1.more {bg : Nat} {seen : List Int} (h : Bits1 bg seen) (n : Nat) (h1 : 1 ≤ seen.count (n : Int)) : Bits1 bg (seen ++ [(n : Int)]) := by
  refine ⟨h.1, fun j => ?_⟩
  rw [h.2 j, count_snoc, Bool.eq_iff_iff]
  simp only [decide_eq_true_eq]
  by_cases hjn : j = n
  · subst hjn; rw [if_pos rfl]; omega
  · rw [if_neg (by omega)]; omega
theorem Bits2.first {cm : Nat} {seen : List Int} (h : Bits2 cm seen) (n : Nat) (h0 : seen.count (n : Int) = 0) : Bits2 cm (seen ++ [(n : Int)]) := by
  refine ⟨h.1, fun j => ?_⟩
  rw [h.2 j, count_snoc, Bool.eq_iff_iff]
  simp only [decide_eq_true_eq]
  by_cases hjn : j = n
  · subst hjn; rw [if_pos rfl]; omega
  · rw [if_neg (by omega)]; omega
theorem Bits2.more {cm : Nat} {seen : List Int} (h : Bits2 cm seen) (n : Nat) (hn : n < 6) (h1 : seen.count (n : Int) = 1) : Bits2 (cm ||| 2 ^ n) (seen ++ [(n : Int)]) := by
  refine ⟨Nat.or_lt_two_pow (n := 6) h.1 (pow6 hn), fun j => ?_⟩
  rw [Nat.testBit_or, h.2 j, Nat.testBit_two_pow, count_snoc, Bool.eq_iff_iff]
  simp only [Bool.or_eq_true, decide_eq_true_eq]
  by_cases hjn : j = n
  · subst hjn; rw [if_pos rfl]; omega
  · rw [if_neg (by omega)]; omega
theorem Bits1.zero : Bits1 0 [] := ⟨by decide, fun j => by simp⟩
theorem Bits2.zero : Bits2 0 [] := ⟨by decide, fun j => by simp⟩
theorem lastWs_mem {ops : List Op} {o : Op} (h : o ∈ lastWs ops) : o ∈ ops := by
  unfold lastWs at h
  simp only [List.mem_append, Option.mem_toList] at h
  rcases h with (h | h) | h <;> exact (lastW_some h).1
end Go.Proofs.YtkcobaimcfggjaaGreatDoor
namespace Go.Proofs.YtkcobaimcfggjaaGreatDoor
open Go.RowKit
set_option linter.unusedVariables false
set_option linter.unusedSimpArgs false

/-- Lists that hold something lie in blocks that are told apart. -/
def Far (ps : List (List Int × Nat)) : Prop := ps.Pairwise fun a b => 0 < a.1.length → 0 < b.1.length → a.2 ≠ b.2
def HoldS (w : World) (S : Nat → Prop) (xss : List (List Int)) (v : Value) : Prop :=
  ∃ ps g, ps.map Prod.fst = xss ∧ Hold (tIntSB 3) 30 w S ps v g ∧ Far ps
theorem HoldS.mono {w w' : World} {S S' : Nat → Prop} {xss : List (List Int)} {v : Value} (h : HoldS w S xss v) (h1 : ∀ b, S b → S' b) (h2 : ∀ b, S b → w'.heap[b]? = w.heap[b]?) : HoldS w' S' xss v := by
  obtain ⟨ps, g, e, h3, h4⟩ := h
  exact ⟨ps, g, e, h3.mono h1 h2, h4⟩
theorem HoldS.sl {w : World} {S : Nat → Prop} {xss : List (List Int)} {v : Value} (h : HoldS w S xss v) : Sl (tSlice tInt) w S xss v := by
  obtain ⟨ps, g, rfl, h3, h4⟩ := h
  exact h3.sl.intSB
/-- The mark at which list j begins. -/
def kS (k : Int) (ls : List Nat) (j : Nat) : Int := k + ((ls.take j).sum : Nat)
/-- Lists of which the first i bear their marks. -/
structure MS (S : Nat → Prop) (g : Nat) (k : Int) (ls gs : List Nat) (i : Nat) (w : World) : Prop where
  blk : ∃ cur, Blk w g 30 cur
  inn : ∀ j (hj : j < ls.length) (hg : j < gs.length), ∃ A c, w.cell? ⟨g, j, none⟩ = some (.slice A ls[j] c) ∧ (0 < ls[j] → A = some ⟨gs[j], 0, none⟩ ∧ S gs[j] ∧ ∃ cur, Blk w gs[j] 3 cur ∧ ls[j] ≤ cur.size ∧ (j < i → ∀ t, t < ls[j] → cur[t]? = some (.int .i64 (kS k ls j + t))))
theorem MS.keep {S : Nat → Prop} {g : Nat} {k : Int} {ls gs : List Nat} {i : Nat} {w w' : World} (h : MS S g k ls gs i w) (hw : ∀ b, S b → w'.heap[b]? = w.heap[b]?) (hg : S g) : MS S g k ls gs i w' := by
  obtain ⟨⟨cur, hb⟩, hi⟩ := h
  refine ⟨⟨cur, hb.of (hw g hg)⟩, fun j hj hgj => ?_⟩
  obtain ⟨A, c, h1, h2⟩ := hi j hj hgj
  refine ⟨A, c, (World.cell?_of_block (hw g hg)).trans h1, fun hp => ?_⟩
  obtain ⟨h3, h4, cur2, h5, h6⟩ := h2 hp
  exact ⟨h3, h4, cur2, h5.of (hw _ h4), h6⟩
def MarkedS (w : World) (S : Nat → Prop) (A : Option Addr) (k : Int) (ls gs : List Nat) : Prop :=
  0 < ls.length → ∃ g, A = some ⟨g, 0, none⟩ ∧ S g ∧ ls.length = gs.length ∧ MS S g k ls gs ls.length w
theorem MarkedS.keep {w w' : World} {S : Nat → Prop} {A : Option Addr} {k : Int} {ls gs : List Nat} (h : MarkedS w S A k ls gs) (hw : ∀ b, S b → w'.heap[b]? = w.heap[b]?) : MarkedS w' S A k ls gs := fun hp => by
  obtain ⟨g, hA, hg, hl, hm⟩ := h hp
  exact ⟨g, hA, hg, hl, hm.keep hw hg⟩
theorem MS.start {w : World} {S : Nat → Prop} {ps : List (List Int × Nat)} {A : Option Addr} {n c g : Nat} (h : Hold (tIntSB 3) 30 w S ps (.slice A n c) g) (hp : 0 < ps.length) (k : Int) :
    A = some ⟨g, 0, none⟩ ∧ S g ∧ MS S g k (ps.map fun p => p.1.length) (ps.map Prod.snd) 0 w := by
  obtain ⟨A', c', hv, hc, hm, hr⟩ := h
  injection hv with h1 h2 h3
  subst h1
  obtain ⟨rfl, hg, ⟨cur, hB, hs⟩, S', hS', hrow⟩ := hr hp
  refine ⟨rfl, hg, ⟨cur, hB⟩, fun j hj hgj => ?_⟩
  have hj2 : j < ps.length := by simpa using hj
  obtain ⟨cs, ⟨v, rfl, A3, c3, rfl, h4, h5, h6⟩, hcs⟩ := hrow j hj2
  refine ⟨A3, c3, ?_, fun hpos => ?_⟩
  · have := hcs 0 _ rfl
    simp only [tIntSB, Nat.zero_add] at this
    simpa using this
  · simp only [List.getElem_map] at hpos ⊢
    obtain ⟨rfl, hg2, ⟨cur2, hB2, hs2⟩, _⟩ := h6 hpos
    have hs3 : ps[j].1.length * 1 ≤ cur2.size := hs2
    exact ⟨rfl, (hS' _ hg2).1, cur2, hB2, by omega, fun h => absurd h (by omega)⟩
end Go.Proofs.YtkcobaimcfggjaaGreatDoor
