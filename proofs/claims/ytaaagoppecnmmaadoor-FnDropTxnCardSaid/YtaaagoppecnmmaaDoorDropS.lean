/- The reference's DropTxn. -/
import Derived.Test.YtaaagoppecnmmaaDoorDropM
import Derived.Test.YtaaagoppecnmmaaDoorOwnList
import Derived.Test.YtaaagoppecnmmaaDoorWriterS
namespace Go.Proofs.YtaaagoppecnmmaaDoor
open Go.RowKit
set_option linter.unusedVariables false

set_option maxRecDepth 10000 in
set_option maxHeartbeats 2000000 in
theorem specDropTxn_t (xs : List Txn) (n : Nat) (A : Option Addr) (c : Nat) (w : World) (hn : n < xs.length) (hm : xs.length ≤ 1048576) (ho : ∀ x ∈ xs, x.Ops.length ≤ 1048576) (ht : opsN xs ≤ 1048576) (hv : histV xs = true) (hA : Row tTxn w (Old w) A xs) :
    Calls Tryd.prog 14 #[.slice A xs.length c, .int .i64 n] w fun e w' => ∃ v, e = .returned (.tuple #[v, .bool true]) ∧ Own (tTxnO 71) 42 w' (New w w') (dropL xs n) v ∧ Below w.heap.size w w' := by
  obtain ⟨i0, hi, hz0, hz1, hz2⟩ := info_parts infoTxn_
  obtain ⟨i1, hi1, hz01, hz11, hz21⟩ := info_parts infoOpT
  have HC := hide (ownTxnList xs A c w hm ho hA)
  have HV := hide hv
  obtain ⟨h6, hts⟩ := histV_parts hv
  have HT := hide hts
  have HO := hide ho
  have HN := hide ht
  have hq : xs.length ≤ 9223372036854775807 := by omega
  have hin : inR (n : Int) 0 ((xs.length : Int) - 1) = true := inR_iff.2 ⟨by omega, by omega⟩
  have HI := hide hin
  clear hA hv hts ho ht hin
  go_enter Tryd.func14, Tryd.ntmps14
  go_wp2_with fail
  refine HC.out.mono ?_
  rintro e w1 ⟨v1, rfl, hO1, hb1⟩
  obtain ⟨A1, c1, rfl, hle1, hcm1, hR1⟩ := hO1.weakTxn.old
  have HR1 := hide hR1; have HB1 := hide hb1
  have HB1' := hide (hb1.alloc hb1.size (.cells #[] 42))
  have HR1' := hide (hR1.old ((Below.refl _ w1).alloc (Nat.le_refl _) (.cells #[] 42)))
  have HOe := hide (Own.empty (T := tTxnO 71) (e := 42) w1 (fun b => w1.heap.size ≤ b) (Nat.le_refl _))
  have HHv := hide (show Calls Tryd.prog 52 #[.slice A1 xs.length c1] (w1.alloc (.cells #[] 42)) _ from specHistoryValid xs A1 c1 _ (by simp only [maxLen]; omega) (hR1.old ((Below.refl _ w1).alloc (Nat.le_refl _) _)) HN.out)
  rw [HV.out] at HHv
  clear hO1 hb1 hR1 hle1 hcm1
  go_wp2_with (first | (go_at_call 52; refine HHv.out.mono ?_; rintro e w2 ⟨rfl, hb2⟩; have HB2 := hide (((Below.refl _ w1).alloc (Nat.le_refl _) (.cells #[] 42)).trans (hb2.mono (by simp))); have HO2 := hide (HOe.out.onlyBelow hb2); have hz2_ : w1.heap.size < w2.heap.size := (by have := hb2.size; simp at this; omega); clear hb2) | (go_at_call 53; refine (l1In _ _ _ _).mono ?_; rintro e w' ⟨rfl, rfl⟩; rw [HI.out]))
  clear HHv HR1' HB1' HOe HC
  have HSz := hide hz2_
  go_loopw [6, 7, 8, 9, 10] (fun v i _ _ _ wr => ∃ k : Nat, k ≤ xs.length ∧ i = .int .i64 k ∧ Hid (Own (tTxnO 71) 42 wr (fun b => w1.heap.size ≤ b ∧ Old wr b) (dropI xs n k) v) ∧ Below w1.heap.size w1 wr) (fun _ i _ _ _ _ => xs.length - (intOf i).toNat)
  case atStart => exact ⟨0, Nat.zero_le _, rfl, HO2.out, HB2.out⟩
  case round =>
    obtain ⟨k, hk, rfl, hOu, hb⟩ := hrel
    by_cases hlt : k < xs.length
    · obtain ⟨b, off, A3, c3, rfl, hbS, d0, d1, d3, hj1, hj2, hj3⟩ := at_Txn HR1.out hb hlt
      have HS := hide (dropI_succ xs n k hlt)
      by_cases hkn : k = n
      · have hkn' : ((k : Int) == (n : Int)) = true := by rw [beq_iff_eq]; omega
        rw [if_pos hkn, List.append_nil] at HS
        clear hkn
        go_wp2_with fail
        go_roundw
        case rel => exact ⟨k + 1, by omega, by go_num, by rw [HS.out]; exact hOu.out, hb⟩
        case measure => simp [intOf]; omega
      · have hkn' : ((k : Int) == (n : Int)) = false := by rw [beq_eq_false_iff_ne]; omega
        rw [if_neg hkn] at HS
        clear hkn
        go_upto_region 9 with (fail)
        have hbz : b < wr.heap.size := Nat.lt_of_lt_of_le hbS hb.size
        go_region
        obtain ⟨wo, hwo⟩ : ∃ wo : World, wo = wr := ⟨_, rfl⟩
        rw [← hwo] at hOu hb d0 d1 d3 hj3 hbz ⊢
        clear hwo
        generalize hW : (wo.alloc _).drew = W
        have hB : Blk W wo.heap.size 42 #[.int .i64 xs[k].Session, .slice none 0 0, .bool xs[k].Done] := by rw [← hW]; exact Blk.new wo _ _
        have hbW : Below wo.heap.size wo W := by rw [← hW]; exact ((Below.refl _ wo).alloc (Nat.le_refl _) _).drew
        clear hW
        have HB := hide hB; have HBW := hide hbW; have Hd1 := hide d1; have HR := hide hj3; have Hbz := hide hbz; have HOu := hide hOu; have HBo := hide hb
        have hq2 : xs[k].Ops.length ≤ 9223372036854775807 := by have := HO.out _ (List.getElem_mem hlt); omega
        clear hB hbW hOu hb d0 d1 d3 hj3 hbz hj1 hj2
        go_wp2_with fail
        go_loopw [9, 10] (fun j _ wr => ∃ (l : Nat) (A5 : Option Addr) (c5 n5 : Nat), l ≤ xs[k].Ops.length ∧ j = .int .i64 l ∧ Hid (Blk wr wo.heap.size 42 #[.int .i64 xs[k].Session, .slice A5 n5 c5, .bool xs[k].Done]) ∧ Hid (Own tOp 71 wr (fun b => wo.heap.size < b ∧ Old wr b) ((xs[k].Ops.take l).filter (keepOp xs n)) (.slice A5 n5 c5)) ∧ Below wo.heap.size wo wr) (fun j _ _ => xs[k].Ops.length - (intOf j).toNat)
        case atStart => exact ⟨0, none, 0, 0, Nat.zero_le _, rfl, HB.out, Own.nil_, HBW.out⟩
        case round =>
          obtain ⟨l, A5, c5, n5, hl, rfl, hB, hO5, hb⟩ := hrel
          have d1 := (hb.cell (p := ⟨b, off + k * 3 + 1, none⟩) Hbz.out).trans Hd1.out
          by_cases hlt2 : l < xs[k].Ops.length
          · obtain ⟨b2, off2, rfl, hbS2, e0, e1, e2⟩ := at_Op HR.out hb hlt2
            have hz := hB.out.lt
            have HKp := hide (keep_spec HV.out n xs[k].Ops[l] ((txnOk_parts (HT.out _ (List.getElem_mem hlt))).1 _ (List.getElem_mem hlt2)))
            have HTk := hide (show (xs[k].Ops.take (l + 1)).filter (keepOp xs n) = (xs[k].Ops.take l).filter (keepOp xs n) ++ (if keepOp xs n xs[k].Ops[l] then [xs[k].Ops[l]] else []) by
              rw [List.take_succ_eq_append_getElem hlt2, List.filter_append]
              congr 1
              cases hpj : keepOp xs n xs[k].Ops[l] <;> simp [hpj])
            have hK : xs[k].Ops.length ≤ 6 := (txnOk_parts (HT.out _ (List.getElem_mem hlt))).2
            have HLen := hide (show ((xs[k].Ops.take l).filter (keepOp xs n)).length ≤ 6 by have h1 := List.length_filter_le (keepOp xs n) (xs[k].Ops.take l); rw [List.length_take] at h1; omega)
            go_upto_region 14 with (fail)
            generalize hWq : wr.alloc _ = wq
            have hBq : Blk wq wr.heap.size 71 #[.int .i64 xs[k].Ops[l].Kind, .int .i64 xs[k].Ops[l].Key, .int .i64 xs[k].Ops[l].Value] := by rw [← hWq]; exact Blk.new wr _ _
            have hbq : Below wr.heap.size wr wq := by rw [← hWq]; exact (Below.refl _ wr).alloc (Nat.le_refl _) _
            clear hWq
            have hzq := hBq.lt
            have r0 := hBq.cell 0; have r1 := hBq.cell 1; have r2 := hBq.cell 2
            simp only [List.getElem?_toArray, List.getElem?_cons_zero, List.getElem?_cons_succ] at r0 r1 r2
            have HW := hide (specWriter xs xs[k].Ops[l].Key xs[k].Ops[l].Value _ c1 wq (by simp only [maxLen]; omega) (HR1.out.old ((HBo.out.trans (hb.mono HBo.out.size)).trans (hbq.mono (Nat.le_trans HBo.out.size hb.size)))))
            generalize (look (num xs 0) xs[k].Ops[l].Key xs[k].Ops[l].Value).getD (-1) = wv at HKp HW
            have HBa := hide (hB.out.below hbq hB.out.lt)
            have HOa := hide (hO5.out.onlyBelow hbq)
            have HBla := hide (hb.trans (hbq.mono hb.size))
            have p1 := HBa.out.cell 1
            have g1 := HBa.out.frozen 1
            simp only [List.getElem?_toArray, List.getElem?_cons_zero, List.getElem?_cons_succ] at p1
            generalize hF : (xs[k].Ops.take l).filter (keepOp xs n) = F at *
            have hn5 : n5 = F.length := by
              obtain ⟨A', c', hv5, _⟩ := hO5.out.sl
              injection hv5
            subst hn5
            clear hF hB hO5 hbq hBq e0 e1 e2
            cases q1 : (xs[k].Ops[l].Kind != 1) with
            | true =>
              have HKt := hide (show keepOp xs n xs[k].Ops[l] = true by rw [← HKp.out, q1]; rfl)
              have HBb := hide HBa.out; have HOb := hide HOa.out; have HBl := hide HBla.out
              clear HKp HW
              go_wp2_with (at_builtin; go_loud (refine wpList_put tOp rfl (.tmp 83) (.tmp 85) 40 rfl 71 i1 _ 24 Tryd.underlying40 hi1 hz01 hz11 hz21 rfl (by decide) (fun b => wo.heap.size < b) (fun _ => False) _ xs[k].Ops[l] _ _ rfl HOb.out _ rfl rfl (fun _ h => h.elim) (fun b hb => Nat.lt_of_lt_of_le HBb.out.lt hb) (by have := HLen.out; simp only [maxLen]; omega) (by have := HLen.out; omega) ?_; intro v7 w7 hO_ hK_; obtain ⟨A7, c7, hv7, h71, h72, _⟩ := hO_.sl; subst hv7; have HO7 := hide hO_; have HK7 := hide hK_; have hB7 := HBb.out.of (hK_.block _ HBb.out.lt (by simp)); have p7 := hB7.cell 1; have g7 := hB7.frozen 1; simp only [List.getElem?_toArray, List.getElem?_cons_zero, List.getElem?_cons_succ] at p7; have HB7 := hide hB7; clear hO_ hK_ hB7))
              go_roundw
              case rel =>
                refine ⟨l + 1, A7, c7, _, by omega, by go_num, HB7.out.set_ 1 _, ?_, ?_⟩
                · show Own _ _ _ _ _ _
                  rw [HTk.out, if_pos HKt.out]
                  have h7 := HO7.out; rw [List.length_append, List.length_singleton] at h7; exact h7.mono (w' := w7.setCell ⟨wo.heap.size, 1, none⟩ (.slice A7 (F.length + 1) c7)) (S2 := fun b => wo.heap.size < b ∧ Old (w7.setCell ⟨wo.heap.size, 1, none⟩ (.slice A7 (F.length + 1) c7)) b) (fun b h => ⟨h.1, by simpa [Old] using h.2⟩) (fun b h => Below.heap_setCell _ _ _ _ (by have := h.1; show b ≠ wo.heap.size; omega))
                · exact Below.setCell (p := ⟨wo.heap.size, 1, none⟩) (below_only HBl.out HK7.out HBl.out.size (fun i hi => Nat.le_of_lt hi)) (Nat.le_refl _) _
              case measure => simp [intOf]; omega
            | false =>
              cases q2 : (xs[k].Ops[l].Value == 0) with
              | true =>
                have HKt := hide (show keepOp xs n xs[k].Ops[l] = true by rw [← HKp.out, q1, q2]; rfl)
                have HBb := hide HBa.out; have HOb := hide HOa.out; have HBl := hide HBla.out
                clear HKp HW
                go_wp2_with (at_builtin; refine wpList_put tOp rfl (.tmp 83) (.tmp 85) 40 rfl 71 i1 _ 24 Tryd.underlying40 hi1 hz01 hz11 hz21 rfl (by decide) (fun b => wo.heap.size < b) (fun _ => False) _ xs[k].Ops[l] _ _ rfl HOb.out _ rfl rfl (fun _ h => h.elim) (fun b hb => Nat.lt_of_lt_of_le HBb.out.lt hb) (by have := HLen.out; simp only [maxLen]; omega) (by have := HLen.out; omega) ?_; intro v7 w7 hO_ hK_; obtain ⟨A7, c7, hv7, h71, h72, _⟩ := hO_.sl; subst hv7; have HO7 := hide hO_; have HK7 := hide hK_; have hB7 := HBb.out.of (hK_.block _ HBb.out.lt (by simp)); have p7 := hB7.cell 1; have g7 := hB7.frozen 1; simp only [List.getElem?_toArray, List.getElem?_cons_zero, List.getElem?_cons_succ] at p7; have HB7 := hide hB7; clear hO_ hK_ hB7)
                go_roundw
                case rel =>
                  refine ⟨l + 1, A7, c7, _, by omega, by go_num, HB7.out.set_ 1 _, ?_, ?_⟩
                  · show Own _ _ _ _ _ _
                    rw [HTk.out, if_pos HKt.out]
                    have h7 := HO7.out; rw [List.length_append, List.length_singleton] at h7; exact h7.mono (w' := w7.setCell ⟨wo.heap.size, 1, none⟩ (.slice A7 (F.length + 1) c7)) (S2 := fun b => wo.heap.size < b ∧ Old (w7.setCell ⟨wo.heap.size, 1, none⟩ (.slice A7 (F.length + 1) c7)) b) (fun b h => ⟨h.1, by simpa [Old] using h.2⟩) (fun b h => Below.heap_setCell _ _ _ _ (by have := h.1; show b ≠ wo.heap.size; omega))
                  · exact Below.setCell (p := ⟨wo.heap.size, 1, none⟩) (below_only HBl.out HK7.out HBl.out.size (fun i hi => Nat.le_of_lt hi)) (Nat.le_refl _) _
                case measure => simp [intOf]; omega
              | false =>
                cases q3 : (wv != (n : Int)) with
                | true =>
                  have HKt := hide (show keepOp xs n xs[k].Ops[l] = true by rw [← HKp.out, q1, q2, q3]; rfl)
                  clear HKp
                  go_wp2_with (first | (go_at_call 54; refine HW.out.mono ?_; rintro e w6 ⟨rfl, hb6⟩; have HB6 := hide hb6; obtain ⟨hc6, hf6⟩ := bcell hb6; have hz6 : wr.heap.size < w6.heap.size := (by have := hb6.size; omega); have hB6 := HBa.out.below hb6 HBa.out.lt; have p1 := hB6.cell 1; have g1 := hB6.frozen 1; simp only [List.getElem?_toArray, List.getElem?_cons_zero, List.getElem?_cons_succ] at p1; have HBb := hide hB6; have HOb := hide (HOa.out.onlyBelow hb6); have HSb := hide hb6.size; have HBl := hide (HBla.out.trans (hb6.mono (Nat.le_trans HBla.out.size (Nat.le_refl _)))); clear hb6 hB6) | (at_builtin; refine wpList_put tOp rfl (.tmp 83) (.tmp 85) 40 rfl 71 i1 _ 24 Tryd.underlying40 hi1 hz01 hz11 hz21 rfl (by decide) (fun b => wo.heap.size < b) (fun _ => False) _ xs[k].Ops[l] _ _ rfl HOb.out _ rfl rfl (fun _ h => h.elim) (fun b hb => Nat.lt_of_lt_of_le HBb.out.lt hb) (by have := HLen.out; simp only [maxLen]; omega) (by have := HLen.out; omega) ?_; intro v7 w7 hO_ hK_; obtain ⟨A7, c7, hv7, h71, h72, _⟩ := hO_.sl; subst hv7; have HO7 := hide hO_; have HK7 := hide hK_; have hB7 := HBb.out.of (hK_.block _ HBb.out.lt (by simp)); have p7 := hB7.cell 1; have g7 := hB7.frozen 1; simp only [List.getElem?_toArray, List.getElem?_cons_zero, List.getElem?_cons_succ] at p7; have HB7 := hide hB7; clear hO_ hK_ hB7))
                  go_roundw
                  case rel =>
                    refine ⟨l + 1, A7, c7, _, by omega, by go_num, HB7.out.set_ 1 _, ?_, ?_⟩
                    · show Own _ _ _ _ _ _
                      rw [HTk.out, if_pos HKt.out]
                      have h7 := HO7.out; rw [List.length_append, List.length_singleton] at h7; exact h7.mono (w' := w7.setCell ⟨wo.heap.size, 1, none⟩ (.slice A7 (F.length + 1) c7)) (S2 := fun b => wo.heap.size < b ∧ Old (w7.setCell ⟨wo.heap.size, 1, none⟩ (.slice A7 (F.length + 1) c7)) b) (fun b h => ⟨h.1, by simpa [Old] using h.2⟩) (fun b h => Below.heap_setCell _ _ _ _ (by have := h.1; show b ≠ wo.heap.size; omega))
                    · exact Below.setCell (p := ⟨wo.heap.size, 1, none⟩) (below_only HBl.out HK7.out HBl.out.size (fun i hi => Nat.le_of_lt hi)) (Nat.le_refl _) _
                  case measure => simp [intOf]; omega
                | false =>
                  have HKt := hide (show keepOp xs n xs[k].Ops[l] = false by rw [← HKp.out, q1, q2, q3]; rfl)
                  clear HKp
                  go_wp2_with (go_at_call 54; refine HW.out.mono ?_; rintro e w6 ⟨rfl, hb6⟩; have HB6 := hide hb6; obtain ⟨hc6, hf6⟩ := bcell hb6; have hz6 : wr.heap.size < w6.heap.size := (by have := hb6.size; omega); have hB6 := HBa.out.below hb6 HBa.out.lt; have p1 := hB6.cell 1; have g1 := hB6.frozen 1; simp only [List.getElem?_toArray, List.getElem?_cons_zero, List.getElem?_cons_succ] at p1; have HBb := hide hB6; have HOb := hide (HOa.out.onlyBelow hb6); have HSb := hide hb6.size; have HBl := hide (HBla.out.trans (hb6.mono (Nat.le_trans HBla.out.size (Nat.le_refl _)))); clear hb6 hB6)
                  go_roundw
                  case rel => exact ⟨l + 1, A5, c5, F.length, by omega, by go_num, HBb.out, by show Own _ _ _ _ _ _; rw [HTk.out, if_neg (by rw [HKt.out]; decide), List.append_nil]; exact HOb.out, HBl.out⟩
                  case measure => simp [intOf]; omega
          · obtain rfl : l = xs[k].Ops.length := by omega
            have hO6 := hO5.out
            rw [List.take_length] at hO6
            have hlen6 : (xs[k].Ops.filter (keepOp xs n)).length = n5 := by
              obtain ⟨A', c', hv5, _⟩ := hO6.sl
              injection hv5 with _ h _
              exact h.symm
            have HO6 := hide hO6
            have p0 := hB.out.cell 0; have p1 := hB.out.cell 1; have p2 := hB.out.cell 2
            simp only [List.getElem?_toArray, List.getElem?_cons_zero, List.getElem?_cons_succ] at p0 p1 p2
            have HB6 := hide hb
            have HOu2 := hide (HOu.out.mono (w' := wr) (S2 := fun b => w1.heap.size ≤ b ∧ Old wr b) (fun b h => ⟨h.1, Nat.lt_of_lt_of_le h.2 hb.size⟩) (fun b h => hb.block b h.2))
            have HL := hide (own_lt (B := wo.heap.size) HOu.out (fun b h => h.2))
            have hdl := dropI_len xs n k
            have HSo := hide HBo.out.size
            have Hbs := hide hb.size
            clear hO6 hO5 hB hb
            go_wp2_with (at_builtin; refine wpList_put (tTxnO 71) rfl (.tmp 88) (.tmp 90) 23 rfl 42 i0 _ 40 Tryd.underlying23 hi hz0 hz1 hz2 rfl (by decide) (fun b => w1.heap.size ≤ b) (fun b => wo.heap.size < b ∧ Old wr b) (dropI xs n k) (dropT xs n xs[k]) [.int .i64 xs[k].Session, .slice A5 n5 c5, .bool xs[k].Done] _ rfl HOu2.out _ rfl ⟨_, rfl, HO6.out⟩ (fun b h => ⟨by have := HSo.out; have := h.1; omega, h.2, fun e => by have := HL.out b e; have := h.1; omega⟩) (fun b hb => by have := HSo.out; have := Hbs.out; omega) (by simp only [maxLen]; omega) (by omega) ?_; intro v7 w7 hO_ hK_; have HO7 := hide hO_; have HK7 := hide hK_; clear hO_ hK_)
            go_roundw
            case rel => exact ⟨k + 1, by omega, by go_num, by show Own _ _ _ _ _ _; rw [HS.out]; exact HO7.out, below_only (HBo.out.trans (HB6.out.mono HBo.out.size)) HK7.out (Nat.le_trans HBo.out.size Hbs.out) (fun _ h => h)⟩
            case measure => simp [intOf]; omega
    · obtain rfl : k = xs.length := by omega
      have HSo := hide hb.size
      have HBz := hide hb
      clear hb
      go_wp2_with fail
      go_ret2
      exact ⟨_, rfl, hOu.out.mono (fun b h => ⟨by have := HB1.out.size; have := h.1; omega, h.2⟩) (fun _ _ => rfl), HB1.out.trans (HBz.out.mono HB1.out.size)⟩

set_option maxRecDepth 10000 in
set_option maxHeartbeats 1000000 in
theorem specDropTxn (xs : List Txn) (n : Int) (A : Option Addr) (c : Nat) (w : World) (hm : xs.length ≤ 1048576) (ho : ∀ x ∈ xs, x.Ops.length ≤ 1048576) (ht : opsN xs ≤ 1048576) (hA : Row tTxn w (Old w) A xs) :
    Calls Tryd.prog 14 #[.slice A xs.length c, .int .i64 n] w fun e w' => ∃ v, e = .returned (.tuple #[v, .bool (dropB xs n)]) ∧ Own (tTxnO 71) 42 w' (New w w') (dropR xs n) v ∧ Below w.heap.size w w' := by
  cases hd : dropB xs n with
  | true =>
    have hd2 := hd
    unfold dropB at hd2
    rw [Bool.and_eq_true] at hd2
    obtain ⟨h0, h1⟩ := inR_iff.1 hd2.2
    obtain ⟨m, rfl⟩ : ∃ m : Nat, n = (m : Int) := ⟨n.toNat, by omega⟩
    rw [show dropR xs m = dropL xs m by unfold dropR; rw [hd]; simp]
    exact specDropTxn_t xs m A c w (by omega) hm ho ht hd2.1 hA
  | false =>
    have HR := hide (show dropR xs n = [] by unfold dropR; rw [hd]; rfl)
    have HC := hide (ownTxnList xs A c w hm ho hA)
    have HN := hide ht
    have hq : xs.length ≤ 9223372036854775807 := by omega
    have HD := hide hd
    clear hA ho ht hd
    go_enter Tryd.func14, Tryd.ntmps14
    go_wp2_with fail
    refine HC.out.mono ?_
    rintro e w1 ⟨v1, rfl, hO1, hb1⟩
    obtain ⟨A1, c1, rfl, hle1, hcm1, hR1⟩ := hO1.weakTxn.old
    have HB1' := hide (hb1.alloc hb1.size (.cells #[] 42))
    have HOe := hide (Own.empty (T := tTxnO 71) (e := 42) w1 (fun b => w1.heap.size ≤ b) (Nat.le_refl _))
    have HHv := hide (show Calls Tryd.prog 52 #[.slice A1 xs.length c1] (w1.alloc (.cells #[] 42)) _ from specHistoryValid xs A1 c1 _ (by simp only [maxLen]; omega) (hR1.old ((Below.refl _ w1).alloc (Nat.le_refl _) _)) HN.out)
    have HB1s := hide hb1.size
    clear hO1 hb1 hR1 hle1 hcm1
    cases hv : histV xs with
    | false =>
      rw [hv] at HHv
      clear hv
      go_wp2_with (go_at_call 52; refine HHv.out.mono ?_; rintro e w2 ⟨rfl, hb2⟩; have HB2 := hide (HB1'.out.trans (hb2.mono HB1'.out.size)); have HO2 := hide (HOe.out.onlyBelow hb2); clear hb2)
      go_ret2
      exact ⟨_, rfl, by rw [HR.out]; exact HO2.out.mono (fun b h => ⟨by have := HB1s.out; have := h.1; omega, h.2⟩) (fun _ _ => rfl), HB2.out⟩
    | true =>
      have HI := hide (show inR n 0 ((xs.length : Int) - 1) = false by have h := HD.out; unfold dropB at h; rw [hv, Bool.true_and] at h; exact h)
      rw [hv] at HHv
      clear hv
      go_wp2_with (first | (go_at_call 52; refine HHv.out.mono ?_; rintro e w2 ⟨rfl, hb2⟩; have HB2 := hide (HB1'.out.trans (hb2.mono HB1'.out.size)); have HO2 := hide (HOe.out.onlyBelow hb2); clear hb2) | (go_at_call 53; refine (l1In _ _ _ _).mono ?_; rintro e w' ⟨rfl, rfl⟩; rw [HI.out]))
      go_ret2
      exact ⟨_, rfl, by rw [HR.out]; exact HO2.out.mono (fun b h => ⟨by have := HB1s.out; have := h.1; omega, h.2⟩) (fun _ _ => rfl), HB2.out⟩
end Go.Proofs.YtaaagoppecnmmaaDoor
