/- The program's firstReads. -/
import Derived.Test.YtmlbfhknapkhgaaLastI
namespace Go.Proofs.Ytmlbfhknapkhgaa
open Go.RowKit Go.Maps
set_option linter.unusedVariables false
set_option linter.unusedSimpArgs false

/-- Which keys were touched. -/
def touF (ops : List Op) (key : Int) : Option Bool := if (lastOn ops key).isSome then some true else none
theorem touF_snoc (ops : List Op) (l : Nat) (hl : l < ops.length) : touF (ops.take (l + 1)) = (fun key => if key = ops[l].Key then some true else touF (ops.take l) key) := by
  funext key
  unfold touF
  rw [lastOn_snoc ops l hl]
  by_cases hk : key = ops[l].Key
  · subst hk; simp
  · have hb : (ops[l].Key == key) = false := by rw [beq_eq_false_iff_ne]; exact fun e => hk e.symm
    rw [if_neg hk]
    simp only [hb, Bool.false_eq_true, if_false]
section
variable {P : Program} {k e : TypeId} {κ β : Type} {KK : KeyKit P k κ} {EE : ElKit P e β} (w : World) {ops : Array Oper} {rest : List Oper} {o : Oper} {a : Act} {Q : Exit → Act → World → Prop}
theorem wpList_tab_look_g (hg : Region.wanted o (yielded ops a.tmps) = true) (m x : Operand) (t : TypeId) (hop : o.op = Op.lookup t m x false) (ht : P.underlying t = some (.map k e)) (b n : Nat) (f : κ → Option β)
    (hm : a.eval m = .map (some b)) (h : TabG KK EE w b n f) (key : κ) (hk : KK.ok key) (hx : a.eval x = KK.val key)
    (hK : wpList P ops Q rest (a.put o.dst (EE.val ((f key).getD EE.zero))) w) : wpList P ops Q (o :: rest) a w := by
  refine BigFrame.wpList_want hg fun K' hK' => ?_
  have hrun := h.look ht hk
  unfold Oper.wp
  simp [execOp, hop, hm, hx, hrun, Result.andThen]
  exact hK' _ _ hK
end
theorem touF_get (ops : List Op) (key : Int) : (touF ops key).getD false = (lastOn ops key).isSome := by
  unfold touF
  cases (lastOn ops key).isSome <;> rfl
set_option maxRecDepth 10000 in
set_option maxHeartbeats 2000000 in
theorem implFirstReads (t : Txn) (A : Option Addr) (c : Nat) (w : World) (h6 : t.Ops.length ≤ 6) (hok : ∀ o ∈ t.Ops, opOk o = true) (hA : Row tOp w (Old w) A t.Ops) :
    Calls Try.prog 99 #[.agg #[.int .i64 t.Session, .slice A t.Ops.length c, .bool t.Done]] w fun e w' => ∃ v, e = .returned v ∧ Sl tOp w' (New w w') (firstR t.Ops) v ∧ Below w.heap.size w w' := by
  obtain ⟨i0, hi, hz0, hz1, hz2⟩ := info_parts infoOp_
  have hmm := @run_makeMap Try.prog
  have hmk : ∀ (W : World), (Instr.makeSlice 64 (.int .i64 0) (.int .i64 3)).run Try.prog W = .ok (.slice (some ⟨W.heap.size, 0, none⟩) 0 3) (W.alloc (.cells (madeCells (Value.cells (.agg #[.int .i64 0, .int .i64 0, .int .i64 0])) (3 * 3)) 68)) := fun W => by
    have h := run_make_rowN (P := Try.prog) 64 68 i0 _ Try.underlying64 hi hz0 .i64 .i64 0 3 (Nat.zero_le _) (by rw [hz2]; omega) (by omega) W
    rw [hz1] at h
    exact h
  have HA := hide hA; have HOk := hide hok
  have hq : t.Ops.length ≤ 9223372036854775807 := by omega
  obtain ⟨w1, hw1⟩ : ∃ w1, w1 = w.alloc (.cells #[.int .i64 t.Session, .slice A t.Ops.length c, .bool t.Done] 66) := ⟨_, rfl⟩
  have hs1 : w1.heap.size = w.heap.size + 1 := by rw [hw1]; simp
  obtain ⟨wo, hwo⟩ : ∃ wo, wo = (w1.alloc (.cells (madeCells (Value.cells (.agg #[.int .i64 0, .int .i64 0, .int .i64 0])) (3 * 3)) 68)).alloc (.map #[] 0) := ⟨_, rfl⟩
  have hso : wo.heap.size = w.heap.size + 3 := by rw [hwo]; simp [hs1]
  have HB0 := hide (show Below w.heap.size w wo by rw [hwo, hw1]; exact (((Below.refl _ w).alloc (Nat.le_refl _) _).alloc (by simp) _).alloc (by simp; omega) _)
  have HO0 := hide (show Own tOp 68 wo (fun b => (b = w.heap.size + 1 ∨ wo.heap.size ≤ b) ∧ Old wo b) (firstRs t.Ops 0) (.slice (some ⟨w.heap.size + 1, 0, none⟩) 0 3) by
    have h := Own.made (T := tOp) (e := 68) w1 (S := fun b => (b = w.heap.size + 1 ∨ wo.heap.size ≤ b) ∧ Old wo b) (madeCells (Value.cells (.agg #[.int .i64 0, .int .i64 0, .int .i64 0])) (3 * 3)) 3 (by rw [size_madeCells]; rfl) (by simp only [maxLen]; omega) ⟨.inl hs1, by unfold Old; omega⟩
    rw [hs1] at h
    rcases h with ⟨h, _⟩ | ⟨g, cap, cur, S', hv, hg, hB, r⟩
    · cases h
    · have hge : g = w.heap.size + 1 := by injection hv with h1 _ _; injection h1 with h1; injection h1 with h1 _ _; exact h1.symm
      subst hge
      refine .inr ⟨w.heap.size + 1, 3, _, fun _ => False, rfl, hg, (show Blk wo _ _ _ by rw [hwo]; exact (show Blk (w1.alloc (.cells (madeCells (Value.cells (.agg #[.int .i64 0, .int .i64 0, .int .i64 0])) (3 * 3)) 68)) (w.heap.size + 1) _ _ by rw [← hs1]; exact Blk.new w1 _ _).alloc _), by simp [firstRs], by simp [maxLen], by rw [size_madeCells]; rfl, fun b h => h.elim, fun k hk => absurd hk (by simp [firstRs])⟩)
  have HT0 := hide (show TabG keyI boolV wo (w.heap.size + 2) 0 (touF (t.Ops.take 0)) by
    have h := TabG.made (KK := keyI) (EE := boolV) (w1.alloc (.cells (madeCells (Value.cells (.agg #[.int .i64 0, .int .i64 0, .int .i64 0])) (3 * 3)) 68))
    rw [World.size_alloc, hs1, ← hwo] at h
    exact h.congr (fun x _ => rfl))
  clear hA hok
  go_enter Try.func99, Try.ntmps99
  go_wp2
  simp only [← hw1]
  generalize hW : World.alloc _ _ = W
  have hWo : W = wo := hW.symm.trans hwo.symm
  rw [hWo]
  clear hW hWo hwo W
  go_loopw [3, 6, 12] (fun v _ i wr => ∃ l m : Nat, l ≤ t.Ops.length ∧ i = .int .i64 l ∧ m ≤ l ∧ wo.heap.size ≤ wr.heap.size ∧ Hid (Own tOp 68 wr (fun b => (b = w.heap.size + 1 ∨ wo.heap.size ≤ b) ∧ Old wr b) (firstRs t.Ops l) v) ∧ Hid (TabG keyI boolV wr (w.heap.size + 2) m (touF (t.Ops.take l))) ∧ Hid (Below w.heap.size w wr)) (fun _ _ i _ => t.Ops.length - (intOf i).toNat)
  case atStart => exact ⟨0, 0, Nat.zero_le _, rfl, Nat.le_refl _, Nat.le_refl _, HO0.out, HT0.out, HB0.out⟩
  case round =>
    obtain ⟨l, m, hl, rfl, hm, hwz, hO, hT, hb⟩ := hrel
    clear HO0 HT0 HB0
    have HZ := hide hwz; have HSo := hide hso
    clear hwz hso hs1 hmm hmk
    by_cases hlt : l < t.Ops.length
    · obtain ⟨b2, off2, rfl, hbS2, d0, d1, d2⟩ := at_Op HA.out hb.out hlt
      have hok := HOk.out _ (List.getElem_mem hlt)
      have hp := opOk_parts hok
      have hky : keyI.ok t.Ops[l].Key := wf_small (by omega) (by omega)
      have HS := hide (touF_snoc t.Ops l hlt)
      have HG := hide (touF_get (t.Ops.take l) t.Ops[l].Key)
      have HF := hide (firstRs_succ t.Ops l hlt)
      have hfl := firstRs_len t.Ops l
      have HW := hide (reads_any t.Ops[l] (wr.alloc (.cells #[.int .i64 t.Ops[l].Kind, .int .i64 t.Ops[l].Key, .int .i64 t.Ops[l].Value] 68)))
      have HX := hide (Blk.new wr 68 #[.int .i64 t.Ops[l].Kind, .int .i64 t.Ops[l].Key, .int .i64 t.Ops[l].Value])
      have HT := hide (hT.out.keep (w' := wr.alloc (.cells #[.int .i64 t.Ops[l].Kind, .int .i64 t.Ops[l].Key, .int .i64 t.Ops[l].Value] 68)) (Below.heap_alloc _ _ _ hT.out.lt))
      have HB := hide (hb.out.alloc hb.out.size (.cells #[.int .i64 t.Ops[l].Kind, .int .i64 t.Ops[l].Key, .int .i64 t.Ops[l].Value] 68))
      have HO := hide (hO.out.onlyBelow ((Below.refl _ wr).alloc (Nat.le_refl _) (.cells #[.int .i64 t.Ops[l].Kind, .int .i64 t.Ops[l].Key, .int .i64 t.Ops[l].Value] 68)))
      have HOr := hide hO.out
      clear hok hp hT hb hO
      cases hkd : (t.Ops[l].Kind == 1) with
      | false =>
        rw [hkd] at HW HF
        simp only [Bool.false_and, Bool.false_eq_true, if_false, List.append_nil] at HF
        clear hkd
        go_wp2_with (first | (go_at_call 140; refine HW.out.mono ?_; rintro e w2 ⟨rfl, hb2⟩; have HB2 := hide hb2; have hX2 := HX.out.below hb2 HX.out.lt; have x0 := hX2.cell 0; have x1 := hX2.cell 1; have x2 := hX2.cell 2; simp only [List.getElem?_toArray, List.getElem?_cons_zero, List.getElem?_cons_succ] at x0 x1 x2; have HT2 := hide (HT.out.keep (hb2.block _ HT.out.lt)); have HB3 := hide (HB.out.trans (hb2.mono HB.out.size)); have hz2 : wr.heap.size < w2.heap.size := hX2.lt; have HO2 := hide (HO.out.onlyBelow hb2); have HX2 := hide hX2; have HZ2 := hide (Nat.le_trans HZ.out (Nat.le_of_lt hz2)); clear hb2 hX2) | (at_mapUpdate; refine wpList_tab_put (KK := keyI) (EE := boolV) _ rfl (.tmp 29) (.tmp 31) (.const (.bool true)) 140 rfl Try.underlying140 (w.heap.size + 2) m _ rfl HT2.out (by simp only [maxLen]; omega) t.Ops[l].Key hky true trivial rfl rfl ?_; intro w3 hT3 hg3; have HT3 := hide hT3; have HG3 := hide hg3; clear hT3 hg3))
        go_roundw
        case rel => exact ⟨l + 1, m + 1, by omega, by go_num, by omega, Nat.le_trans HZ2.out HG3.out.size, by rw [HF.out]; exact HO2.out.only (Only.of_grown HG3.out (K := fun b => b = w.heap.size + 2) (fun i hi => by injection hi with hi; exact hi.symm)) (fun b h => ⟨h.2, fun e => by have := h.1; have := HSo.out; omega⟩) |>.mono (fun b h => ⟨h.1, Nat.lt_of_lt_of_le h.2 HG3.out.size⟩) (fun _ _ => rfl), by rw [HS.out]; exact HT3.out, below_tab HB3.out HG3.out (by omega) HB3.out.size⟩
        case measure => simp [intOf]; omega
      | true =>
        rw [hkd] at HW HF
        simp only [Bool.true_and] at HF
        clear hkd
        cases htd : (lastOn (t.Ops.take l) t.Ops[l].Key).isSome with
        | true =>
          have HF := hide (show firstRs t.Ops (l + 1) = firstRs t.Ops l by rw [HF.out, if_neg (by rw [Option.isNone_iff_eq_none]; intro e; rw [e] at htd; cases htd), List.append_nil])
          rw [htd] at HG
          clear htd
          go_wp2_with (first | (go_at_call 140; refine HW.out.mono ?_; rintro e w2 ⟨rfl, hb2⟩; have HB2 := hide hb2; have hX2 := HX.out.below hb2 HX.out.lt; have x0 := hX2.cell 0; have x1 := hX2.cell 1; have x2 := hX2.cell 2; simp only [List.getElem?_toArray, List.getElem?_cons_zero, List.getElem?_cons_succ] at x0 x1 x2; have HT2 := hide (HT.out.keep (hb2.block _ HT.out.lt)); have HB3 := hide (HB.out.trans (hb2.mono HB.out.size)); have hz2 : wr.heap.size < w2.heap.size := hX2.lt; have HO2 := hide (HO.out.onlyBelow hb2); have HX2 := hide hX2; have HZ2 := hide (Nat.le_trans HZ.out (Nat.le_of_lt hz2)); clear hb2 hX2) | (at_lookup; refine wpList_tab_look_g (KK := keyI) (EE := boolV) _ rfl (.tmp 19) (.tmp 21) 140 rfl Try.underlying140 (w.heap.size + 2) _ _ rfl HT2.out t.Ops[l].Key hky rfl ?_; dsimp only [boolV, boolEl]; rw [HG.out]) | (at_mapUpdate; refine wpList_tab_put (KK := keyI) (EE := boolV) _ rfl (.tmp 29) (.tmp 31) (.const (.bool true)) 140 rfl Try.underlying140 (w.heap.size + 2) m _ rfl HT2.out (by simp only [maxLen]; omega) t.Ops[l].Key hky true trivial rfl rfl ?_; intro w3 hT3 hg3; have HT3 := hide hT3; have HG3 := hide hg3; clear hT3 hg3))
          go_roundw
          case rel => exact ⟨l + 1, m + 1, by omega, by go_num, by omega, Nat.le_trans HZ2.out HG3.out.size, by rw [HF.out]; exact HO2.out.only (Only.of_grown HG3.out (K := fun b => b = w.heap.size + 2) (fun i hi => by injection hi with hi; exact hi.symm)) (fun b h => ⟨h.2, fun e => by have := h.1; have := HSo.out; omega⟩) |>.mono (fun b h => ⟨h.1, Nat.lt_of_lt_of_le h.2 HG3.out.size⟩) (fun _ _ => rfl), by rw [HS.out]; exact HT3.out, below_tab HB3.out HG3.out (by omega) HB3.out.size⟩
          case measure => simp [intOf]; omega
        | false =>
          have HF := hide (show firstRs t.Ops (l + 1) = firstRs t.Ops l ++ [t.Ops[l]] by rw [HF.out, if_pos (by rw [Option.isNone_iff_eq_none]; cases hh : lastOn (t.Ops.take l) t.Ops[l].Key with | none => rfl | some o => rw [hh] at htd; cases htd)])
          rw [htd] at HG
          clear htd
          go_upto_region 7 with (first | (go_at_call 140; refine HW.out.mono ?_; rintro e w2 ⟨rfl, hb2⟩; have HB2 := hide hb2; have hX2 := HX.out.below hb2 HX.out.lt; have x0 := hX2.cell 0; have x1 := hX2.cell 1; have x2 := hX2.cell 2; simp only [List.getElem?_toArray, List.getElem?_cons_zero, List.getElem?_cons_succ] at x0 x1 x2; have HT2 := hide (HT.out.keep (hb2.block _ HT.out.lt)); have HB3 := hide (HB.out.trans (hb2.mono HB.out.size)); have hz2 : wr.heap.size < w2.heap.size := hX2.lt; have HO2 := hide (HO.out.onlyBelow hb2); have HX2 := hide hX2; have HZ2 := hide (Nat.le_trans HZ.out (Nat.le_of_lt hz2)); clear hb2 hX2) | (at_lookup; refine wpList_tab_look_g (KK := keyI) (EE := boolV) _ rfl (.tmp 19) (.tmp 21) 140 rfl Try.underlying140 (w.heap.size + 2) _ _ rfl HT2.out t.Ops[l].Key hky rfl ?_; dsimp only [boolV, boolEl]; rw [HG.out]))
          have HO5 := hide (show Own tOp 68 w2 (fun b => ((b = w.heap.size + 1 ∨ wo.heap.size ≤ b) ∧ b ≠ wr.heap.size) ∧ Old w2 b) (firstRs t.Ops l) u3 from
            HOr.out.mono (fun b h => ⟨⟨h.1, by have := h.2; unfold Old at this; omega⟩, by have := h.2; unfold Old at *; omega⟩) (fun b h => (HB2.out.block b (Nat.lt_of_lt_of_le h.2 (by simp))).trans (Below.heap_alloc _ _ _ h.2)))
          clear HO HO2 HOr
          go_wp2_with (first | (at_builtin; refine wpList_put tOp rfl (.tmp 25) (.tmp 27) 64 rfl 68 i0 _ 24 Try.underlying64 hi hz0 hz1 (by assumption) rfl (by decide) (fun b => (b = w.heap.size + 1 ∨ wo.heap.size ≤ b) ∧ b ≠ wr.heap.size) (fun _ => False) (firstRs t.Ops l) t.Ops[l] [.int .i64 t.Ops[l].Kind, .int .i64 t.Ops[l].Key, .int .i64 t.Ops[l].Value] _ rfl HO5.out 1 rfl rfl (fun _ h => h.elim) (fun b hb => ⟨.inr (Nat.le_trans HZ2.out hb), by omega⟩) (by simp only [maxLen]; omega) (by omega) ?_; intro v5 w5 hO_ hK_; have HO6 := hide hO_; have HK6 := hide hK_; have HT5 := hide (HT2.out.keep (hK_.block _ HT2.out.lt (by have := HSo.out; omega))); have hX5 := HX2.out.of (hK_.block _ HX2.out.lt (by omega)); have y0 := hX5.cell 0; have y1 := hX5.cell 1; have y2 := hX5.cell 2; simp only [List.getElem?_toArray, List.getElem?_cons_zero, List.getElem?_cons_succ] at y0 y1 y2; have hz5 : wr.heap.size < w5.heap.size := hX5.lt; clear hX5 hO_ hK_ x0 x1 x2) | (at_mapUpdate; refine wpList_tab_put (KK := keyI) (EE := boolV) _ rfl (.tmp 29) (.tmp 31) (.const (.bool true)) 140 rfl Try.underlying140 (w.heap.size + 2) m _ rfl HT5.out (by simp only [maxLen]; omega) t.Ops[l].Key hky true trivial rfl rfl ?_; intro w3 hT3 hg3; have HT3 := hide hT3; have HG3 := hide hg3; clear hT3 hg3))
          go_roundw
          case rel => exact ⟨l + 1, m + 1, by omega, by go_num, by omega, Nat.le_trans HZ2.out (Nat.le_trans HK6.out.size HG3.out.size), by rw [HF.out]; exact HO6.out.only (Only.of_grown HG3.out (K := fun b => b = w.heap.size + 2) (fun i hi => by injection hi with hi; exact hi.symm)) (fun b h => ⟨h.2, fun e => by have := h.1.1; have := HSo.out; omega⟩) |>.mono (fun b h => ⟨h.1.1, Nat.lt_of_lt_of_le h.2 HG3.out.size⟩) (fun _ _ => rfl), by rw [HS.out]; exact HT3.out, below_tab (below_only HB3.out HK6.out HB3.out.size (fun i h => by have := HSo.out; omega)) HG3.out (by omega) (Nat.le_trans HB3.out.size HK6.out.size)⟩
          case measure => simp [intOf]; omega
    · obtain rfl : l = t.Ops.length := by omega
      have HO1 := hide (show Own tOp 68 wr _ (firstR t.Ops) _ from hO.out)
      obtain ⟨A3, c3, rfl, h31, h32, _⟩ := HO1.out.sl
      have HB1 := hide hb.out
      clear hO hT hb
      go_wp2_with fail
      go_ret
      exact ⟨_, rfl, ⟨A3, _, rfl, Nat.le_refl _, Nat.le_trans h31 h32, HO1.out.sl.row.mono (fun b h => ⟨by have := h.1; have := HSo.out; omega, h.2⟩) (fun _ _ => rfl)⟩, HB1.out⟩
end Go.Proofs.Ytmlbfhknapkhgaa
