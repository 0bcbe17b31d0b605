/- The reference's ReadHistory. HistoryText of the program and of the reference. sameInts: two lists of numbers are compared. Comparing equal histories answers true: sameOps, sameTxn, sameHistory. The law FnHistoryText: texts of histories can be read. -/
import Derived.Test.YtjnghnkilnhacaaGreatDoorQTxtX
import Derived.Test.YtjnghnkilnhacaaGreatDoorQHistS
import Derived.Test.YtjnghnkilnhacaaGreatDoorQWriters
import Derived.Test.YtjnghnkilnhacaaGreatDoorQHoldX
import Derived.Test.YtjnghnkilnhacaaGreatDoorProg
import Derived.Test.YtjnghnkilnhacaaGreatDoorQElems
import Derived.BigQuiet
namespace Go.Proofs.YtjnghnkilnhacaaGreatDoor
open Go.RowKit
set_option linter.unusedVariables false
set_option linter.unusedSimpArgs false

theorem opsN_le {xs : List Txn} (h : ∀ t ∈ xs, t.Ops.length ≤ 6) : opsN xs ≤ 6 * xs.length := by
  induction xs with
  | nil => simp [opsN, tot]
  | cons t l ih =>
    have h3 := ih (fun x hx => h x (List.mem_cons_of_mem _ hx))
    have h4 := h t List.mem_cons_self
    simp only [opsN, tot, List.map_cons, List.sum_cons, List.length_cons] at h3 ⊢
    omega
theorem extract_list (r : ByteArray) (a b : Nat) : (r.extract a b).data.toList = (r.data.toList.drop a).take (b - a) := by
  rw [ByteArray.data_extract, Array.toList_extract, List.extract_eq_take_drop]
set_option maxRecDepth 10000 in
set_option maxHeartbeats 8000000 in
theorem specReadHistory (s : ByteArray) (w : World) (hs : s.size ≤ 1048576) : Calls Tryz.prog 13 #[.string s] w fun e w' => ∃ v, e = .returned (.tuple #[v, .bool (readHL s.data.toList).isSome]) ∧ Sl tTxn w' (New w w') (rdH s.data.toList) v ∧ Below w.heap.size w w' := by
  obtain ⟨i0, hi, hz0, hz1, hz29⟩ := info_parts infoTxn_
  have HSl := hide (show s.data.toList.length = s.size by rw [Array.length_toList]; rfl)
  have HO0 := hide (Own.empty (T := tTxn) (e := 41) w (fun b => w.heap.size ≤ b) (Nat.le_refl _))
  have HB0 := hide ((Below.refl _ w).alloc (Nat.le_refl _) (.cells #[] 41))
  have HBl := hide (ByteArray.toList_eq s)
  have HRt := hide (fun (W : World) (a b : Nat) => specReadTxn (s.extract a b) W (by rw [ByteArray.size_extract]; omega))
  have HVl := hide (fun (xs : List Txn) (A : Option Addr) (c : Nat) (W : World) (h1 : xs.length ≤ 6) (h2 : ∀ t ∈ xs, t.Ops.length ≤ 6) (h3 : Row tTxn W (Old W) A xs) => specHistoryValid xs A c W (by simp only [maxLen]; omega) h3 (by have := opsN_le h2; omega))
  have hq : s.size ≤ 9223372036854775807 := by omega
  go_enter Tryz.func13, Tryz.ntmps13
  go_upto_region 4 with fail
  generalize w.alloc _ = w1 at HO0 HB0 ⊢
  by_cases h0 : s.data.toList = []
  · have h3 : (s.toList != (⟨#[]⟩ : ByteArray).toList) = false := by rw [bne_eq_false_iff_eq, HBl.out, h0, ByteArray.toList_eq]
    have h4 : s.toList = (⟨#[]⟩ : ByteArray).toList := by rw [HBl.out, h0, ByteArray.toList_eq]
    have hN := hide (show readHL s.data.toList = some [] by rw [h0]; rfl)
    have hz : s.size = 0 := by rw [← HSl.out, h0]; rfl
    clear h0
    go_loopw [4, 5, 6] (fun v _ k wr => ∃ u, v = u ∧ k = .int .i64 0 ∧ Hid (Own tTxn 41 wr (fun b => w.heap.size ≤ b ∧ Old wr b) [] u) ∧ Hid (Below w.heap.size w wr)) (fun _ _ _ _ => 0)
    case atStart => exact ⟨_, rfl, rfl, HO0.out, HB0.out⟩
    case round =>
      obtain ⟨u, rfl, rfl, hO, hb⟩ := hrel
      have HO := hide hO.out; have HWr := hide hb.out
      clear hO hb HO0 HB0
      obtain ⟨A, c, rfl, h5, h6, h7⟩ := HO.out.oldRow
      have HV := hide (HVl.out [] A c wr (by simp) (fun t ht => by cases ht) h7)
      have hk0 : (0 : Int) ≤ (s.size : Int) := by omega
      clear h7
      go_wp2_with (go_at_call 9; refine HV.out.mono ?_; rintro e w2 ⟨rfl, hb2⟩; have HB2 := hide (HWr.out.trans (hb2.mono HWr.out.size)); clear hb2)
      go_ret2
      exact ⟨_, by rw [hN.out]; rfl, by unfold rdH; rw [hN.out]; exact ⟨A, c, rfl, h5, h6, Row.nil⟩, HB2.out⟩
  · have h3 : (s.toList != (⟨#[]⟩ : ByteArray).toList) = true := by rw [bne_iff_ne, HBl.out, ByteArray.toList_eq]; exact h0
    have h4 : ¬ s.toList = (⟨#[]⟩ : ByteArray).toList := by rw [HBl.out, ByteArray.toList_eq]; exact h0
    have h5 : (s.toList != ([] : List UInt8)) = true := by rw [bne_iff_ne, HBl.out]; exact h0
    have h6 : (s.toList == ([] : List UInt8)) = false := by rw [beq_eq_false_iff_ne, HBl.out]; exact h0
    have h7 : ¬ s.toList = [] := by rw [HBl.out]; exact h0
    have H0 := hide h0
    clear h0
    have HNo := hide (fun (h : readHL s.data.toList = none) (W : World) (A : Option Addr) => show (Ending.returned (.tuple #[(.slice A 0 0 : Value), .bool false]) = .returned (.tuple #[(.slice A 0 0 : Value), .bool (readHL s.data.toList).isSome])) ∧ Sl tTxn W (New w W) (rdH s.data.toList) (.slice A 0 0) from by unfold rdH; rw [h]; exact ⟨rfl, ⟨A, 0, rfl, Nat.le_refl _, by simp [maxLen], Row.nil⟩⟩)
    go_loopw [4, 5, 6] (fun v fr k wr => ∃ (i b : Nat) (xs : List Txn) (u : Value), v = u ∧ fr = .int .i64 b ∧ k = .int .i64 i ∧ i ≤ s.size + 1 ∧ Hid (ScanI s.data.toList b i xs) ∧ xs.length ≤ 6 ∧ Hid (Own tTxn 41 wr (fun b => w.heap.size ≤ b ∧ Old wr b) xs u) ∧ Hid (Below w.heap.size w wr)) (fun _ _ k _ => s.size + 1 - (intOf k).toNat)
    case atStart => exact ⟨0, 0, [], _, rfl, rfl, rfl, by omega, ScanI.zero _, by simp, HO0.out, HB0.out⟩
    case round =>
      obtain ⟨i, b, xs, u, rfl, rfl, rfl, hi1, hS, hx6, hO, hb⟩ := hrel
      have HS := hide hS.out; have HO := hide hO.out; have HWr := hide hb.out
      clear hS hO hb HO0 HB0
      by_cases hle : i ≤ s.size
      · have hki : (i : Int) ≤ (s.size : Int) := by omega
        have hwi : IntKind.i64.wrap ((i : Int) + 1) = ((i + 1 : Nat) : Int) := by rw [IntKind.wrap_i64]; omega
        have hwi2 : IntKind.i64.wrap ((i : Int) + 2) = ((i + 2 : Nat) : Int) := by rw [IntKind.wrap_i64]; omega
        by_cases hcut : CutAt s.data.toList i
        · have hbi : b ≤ i := by
            refine (HS.out.of (by rw [HSl.out]; exact hle)).ge ?_
            rcases hcut with e | e
            · exact .inl e
            · exact .inr e.1
          have hbi' : (b : Int) ≤ (i : Int) := by omega
          have HCut := hide hcut
          have hcond : (i : Int) = (s.size : Int) ∨ ∃ (h1 : i < s.size) (h2 : i + 1 < s.size), s[i]'h1 = 59 ∧ s[i + 1]'h2 = 32 := by
            rcases hcut with e | ⟨e1, e2⟩
            · left; rw [HSl.out] at e; omega
            · right
              have h1 : i < s.size := by
                rcases Nat.lt_or_ge i s.size with h | h
                · exact h
                · rw [List.getElem?_eq_none (by rw [HSl.out]; exact h)] at e1; cases e1
              have h2 : i + 1 < s.size := by
                rcases Nat.lt_or_ge (i + 1) s.size with h | h
                · exact h
                · rw [List.getElem?_eq_none (by rw [HSl.out]; exact h)] at e2; cases e2
              refine ⟨h1, h2, ?_, ?_⟩
              · rw [List.getElem?_eq_getElem (by rw [HSl.out]; exact h1), Array.getElem_toList] at e1
                exact Option.some.inj e1
              · rw [List.getElem?_eq_getElem (by rw [HSl.out]; exact h2), Array.getElem_toList] at e2
                exact Option.some.inj e2
          clear hcut
          have HPart := hide (extract_list s b i)
          rcases hcond with hend | ⟨h1, h2, e5, e6⟩
          · have hni : ¬ (i : Int) < (s.size : Int) := by omega
            go_upto_region 7 with fail
            clear hend hni
            have HRd := HRt.out wr b i
            cases hrd : readTL (s.extract b i).data.toList with
            | none =>
              have e1 : rdT (s.extract b i).data.toList = ⟨0, [], false⟩ := by unfold rdT; rw [hrd]; rfl
              rw [e1, show (readTL (s.extract b i).data.toList).isSome = false by rw [hrd]; rfl] at HRd
              have HRd := hide HRd
              have HN := hide (show readHL s.data.toList = none from (HS.out.of (by rw [HSl.out]; exact hle)).bad HCut.out H0.out (by rw [← HPart.out]; exact hrd))
              clear hrd e1
              go_upto_region 8 with (go_at_call 31; refine HRd.out.mono ?_; rintro e w2 ⟨v, rfl, hOp, hb2⟩; obtain ⟨A2, c2, rfl, _, _, _⟩ := hOp.sl; have HB2 := hide (HWr.out.trans (hb2.mono HWr.out.size)); clear hOp hb2)
              have HB3 := hide (HB2.out.alloc HB2.out.size (.cells #[.int .i64 0, .slice A2 0 c2, .bool false] 41))
              generalize World.alloc _ _ = w3 at HB3 ⊢
              go_wp2_with fail
              go_ret2
              exact ⟨_, (HNo.out HN.out w3 _).1, (HNo.out HN.out _ _).2, HB3.out.alloc HB3.out.size _⟩
            | some t =>
              have e1 : rdT (s.extract b i).data.toList = t := by unfold rdT; rw [hrd]; rfl
              rw [e1, show (readTL (s.extract b i).data.toList).isSome = true by rw [hrd]; rfl] at HRd
              have HRd := hide HRd
              have HGood := hide (show readTL ((s.data.toList.drop b).take (i - b)) = some t by rw [← HPart.out]; exact hrd)
              clear hrd e1
              go_upto_region 8 with (go_at_call 31; refine HRd.out.mono ?_; rintro e w2 ⟨v, rfl, hOp, hb2⟩; obtain ⟨A2, c2, rfl, hle2, hcm2, hR2⟩ := hOp.sl; have HB2 := hide hb2; have HR2 := hide hR2; clear hOp hb2 hR2)
              have HB3 := hide (HB2.out.alloc HB2.out.size (.cells #[.int .i64 t.Session, .slice A2 t.Ops.length c2, .bool t.Done] 41))
              have HV3 := hide (Blk.new w2 41 #[.int .i64 t.Session, .slice A2 t.Ops.length c2, .bool t.Done])
              have HR3 := hide (show tTxn.rel (w2.alloc (.cells #[.int .i64 t.Session, .slice A2 t.Ops.length c2, .bool t.Done] 41)) (fun b => wr.heap.size ≤ b ∧ b < w2.heap.size) t [.int .i64 t.Session, .slice A2 t.Ops.length c2, .bool t.Done] from ⟨_, rfl, A2, c2, rfl, hle2, hcm2, HR2.out.mono (fun b hb => hb) (fun b hb => Below.heap_alloc _ _ _ hb.2)⟩)
              have HO3 := hide (HO.out.onlyBelow HB3.out)
              have HOw := hide (fun k h => (HO.out.owned k h).2)
              have hz2 : w2.heap.size < (w2.alloc (.cells #[.int .i64 t.Session, .slice A2 t.Ops.length c2, .bool t.Done] 41)).heap.size := by simp
              clear HR2 HO hle2 hcm2
              generalize w2.alloc _ = w3 at HB3 HV3 HR3 HO3 hz2 ⊢
              generalize w2.heap.size = p2 at HV3 HR3 hz2 ⊢
              have x0 := HV3.out.cell 0; have x1 := HV3.out.cell 1; have x2 := HV3.out.cell 2
              simp only [List.getElem?_toArray, List.getElem?_cons_zero, List.getElem?_cons_succ] at x0 x1 x2
              have HW3 := hide (HWr.out.trans (HB3.out.mono HWr.out.size))
              by_cases h6x : xs.length = 6
              · have h6b : ((xs.length : Int) == 6) = true := by rw [h6x]; rfl
                have h6c : (xs.length : Int) = 6 := by rw [h6x]; rfl
                have HN := hide (show readHL s.data.toList = none from (HS.out.of (by rw [HSl.out]; exact hle)).many HCut.out H0.out h6x)
                obtain ⟨Au, cu, rfl, _, _, _⟩ := HO3.out.sl
                go_wp2_with fail
                go_ret2
                exact ⟨_, (HNo.out HN.out w3 _).1, (HNo.out HN.out _ _).2, HW3.out.alloc HW3.out.size _⟩
              · have h6c : ¬ (xs.length : Int) = 6 := by omega
                have h6b : ((xs.length : Int) == 6) = false := by rw [beq_eq_false_iff_ne]; exact h6c
                obtain ⟨Au, cu, hu, _, _, _⟩ := HO3.out.sl
                subst hu
                go_wp2_with (at_builtin; refine wpList_put tTxn rfl (.tmp 60) (.tmp 62) 23 rfl 41 i0 _ 40 Tryz.underlying23 hi hz0 hz1 hz29 rfl (by decide) (fun b => w.heap.size ≤ b) (fun b => wr.heap.size ≤ b ∧ b < p2) xs t [.int .i64 t.Session, .slice A2 t.Ops.length c2, .bool t.Done] _ rfl HO3.out _ rfl HR3.out (fun b hb => ⟨Nat.le_trans HWr.out.size hb.1, Nat.lt_trans hb.2 hz2, fun e => Nat.lt_irrefl _ (Nat.lt_of_lt_of_le (HOw.out b e) hb.1)⟩) (fun b hb => Nat.le_trans HW3.out.size hb) (by simp only [maxLen]; omega) (by omega) ?_; intro v6 w6 hO_ hK_; have HO6 := hide hO_; have HW6 := hide (below_only HW3.out hK_ HW3.out.size (fun i hi => hi)); clear hO_ hK_)
                go_roundw
                case rel => exact ⟨i + 1, i + 2, xs ++ [t], v6, rfl, by first | rfl | go_num, by go_num, by omega, HS.out.read (by rw [HSl.out]; exact hle) HCut.out HGood.out, by simp; omega, HO6.out, HW6.out⟩
                case measure => simp [intOf]; omega
          · have hni : (i : Int) < (s.size : Int) := by omega
            have hc1 : (((s[i]'h1).toNat : Int) != 59) = false := by rw [e5]; rfl
            have hc1' : ((s[i]'h1).toNat : Int) = 59 := by rw [e5]; rfl
            have hc2 : ¬ ((i + 1 : Nat) : Int) ≥ (s.size : Int) := by omega
            have hc2' : ¬ (s.size : Int) ≤ ((i + 1 : Nat) : Int) := by omega
            have hc3 : (((s[i + 1]'h2).toNat : Int) != 32) = false := by rw [e6]; rfl
            have hc3' : ((s[i + 1]'h2).toNat : Int) = 32 := by rw [e6]; rfl
            go_upto_region 7 with fail
            clear hc1 hc1' hc2 hc2' hc3 hc3' e5 e6
            have HRd := HRt.out wr b i
            cases hrd : readTL (s.extract b i).data.toList with
            | none =>
              have e1 : rdT (s.extract b i).data.toList = ⟨0, [], false⟩ := by unfold rdT; rw [hrd]; rfl
              rw [e1, show (readTL (s.extract b i).data.toList).isSome = false by rw [hrd]; rfl] at HRd
              have HRd := hide HRd
              have HN := hide (show readHL s.data.toList = none from (HS.out.of (by rw [HSl.out]; exact hle)).bad HCut.out H0.out (by rw [← HPart.out]; exact hrd))
              clear hrd e1
              go_upto_region 8 with (go_at_call 31; refine HRd.out.mono ?_; rintro e w2 ⟨v, rfl, hOp, hb2⟩; obtain ⟨A2, c2, rfl, _, _, _⟩ := hOp.sl; have HB2 := hide (HWr.out.trans (hb2.mono HWr.out.size)); clear hOp hb2)
              have HB3 := hide (HB2.out.alloc HB2.out.size (.cells #[.int .i64 0, .slice A2 0 c2, .bool false] 41))
              generalize World.alloc _ _ = w3 at HB3 ⊢
              go_wp2_with fail
              go_ret2
              exact ⟨_, (HNo.out HN.out w3 _).1, (HNo.out HN.out _ _).2, HB3.out.alloc HB3.out.size _⟩
            | some t =>
              have e1 : rdT (s.extract b i).data.toList = t := by unfold rdT; rw [hrd]; rfl
              rw [e1, show (readTL (s.extract b i).data.toList).isSome = true by rw [hrd]; rfl] at HRd
              have HRd := hide HRd
              have HGood := hide (show readTL ((s.data.toList.drop b).take (i - b)) = some t by rw [← HPart.out]; exact hrd)
              clear hrd e1
              go_upto_region 8 with (go_at_call 31; refine HRd.out.mono ?_; rintro e w2 ⟨v, rfl, hOp, hb2⟩; obtain ⟨A2, c2, rfl, hle2, hcm2, hR2⟩ := hOp.sl; have HB2 := hide hb2; have HR2 := hide hR2; clear hOp hb2 hR2)
              have HB3 := hide (HB2.out.alloc HB2.out.size (.cells #[.int .i64 t.Session, .slice A2 t.Ops.length c2, .bool t.Done] 41))
              have HV3 := hide (Blk.new w2 41 #[.int .i64 t.Session, .slice A2 t.Ops.length c2, .bool t.Done])
              have HR3 := hide (show tTxn.rel (w2.alloc (.cells #[.int .i64 t.Session, .slice A2 t.Ops.length c2, .bool t.Done] 41)) (fun b => wr.heap.size ≤ b ∧ b < w2.heap.size) t [.int .i64 t.Session, .slice A2 t.Ops.length c2, .bool t.Done] from ⟨_, rfl, A2, c2, rfl, hle2, hcm2, HR2.out.mono (fun b hb => hb) (fun b hb => Below.heap_alloc _ _ _ hb.2)⟩)
              have HO3 := hide (HO.out.onlyBelow HB3.out)
              have HOw := hide (fun k h => (HO.out.owned k h).2)
              have hz2 : w2.heap.size < (w2.alloc (.cells #[.int .i64 t.Session, .slice A2 t.Ops.length c2, .bool t.Done] 41)).heap.size := by simp
              clear HR2 HO hle2 hcm2
              generalize w2.alloc _ = w3 at HB3 HV3 HR3 HO3 hz2 ⊢
              generalize w2.heap.size = p2 at HV3 HR3 hz2 ⊢
              have x0 := HV3.out.cell 0; have x1 := HV3.out.cell 1; have x2 := HV3.out.cell 2
              simp only [List.getElem?_toArray, List.getElem?_cons_zero, List.getElem?_cons_succ] at x0 x1 x2
              have HW3 := hide (HWr.out.trans (HB3.out.mono HWr.out.size))
              by_cases h6x : xs.length = 6
              · have h6b : ((xs.length : Int) == 6) = true := by rw [h6x]; rfl
                have h6c : (xs.length : Int) = 6 := by rw [h6x]; rfl
                have HN := hide (show readHL s.data.toList = none from (HS.out.of (by rw [HSl.out]; exact hle)).many HCut.out H0.out h6x)
                obtain ⟨Au, cu, rfl, _, _, _⟩ := HO3.out.sl
                go_wp2_with fail
                go_ret2
                exact ⟨_, (HNo.out HN.out w3 _).1, (HNo.out HN.out _ _).2, HW3.out.alloc HW3.out.size _⟩
              · have h6c : ¬ (xs.length : Int) = 6 := by omega
                have h6b : ((xs.length : Int) == 6) = false := by rw [beq_eq_false_iff_ne]; exact h6c
                obtain ⟨Au, cu, hu, _, _, _⟩ := HO3.out.sl
                subst hu
                go_wp2_with (at_builtin; refine wpList_put tTxn rfl (.tmp 60) (.tmp 62) 23 rfl 41 i0 _ 40 Tryz.underlying23 hi hz0 hz1 hz29 rfl (by decide) (fun b => w.heap.size ≤ b) (fun b => wr.heap.size ≤ b ∧ b < p2) xs t [.int .i64 t.Session, .slice A2 t.Ops.length c2, .bool t.Done] _ rfl HO3.out _ rfl HR3.out (fun b hb => ⟨Nat.le_trans HWr.out.size hb.1, Nat.lt_trans hb.2 hz2, fun e => Nat.lt_irrefl _ (Nat.lt_of_lt_of_le (HOw.out b e) hb.1)⟩) (fun b hb => Nat.le_trans HW3.out.size hb) (by simp only [maxLen]; omega) (by omega) ?_; intro v6 w6 hO_ hK_; have HO6 := hide hO_; have HW6 := hide (below_only HW3.out hK_ HW3.out.size (fun i hi => hi)); clear hO_ hK_)
                go_roundw
                case rel => exact ⟨i + 1, i + 2, xs ++ [t], v6, rfl, by first | rfl | go_num, by go_num, by omega, HS.out.read (by rw [HSl.out]; exact hle) HCut.out HGood.out, by simp; omega, HO6.out, HW6.out⟩
                case measure => simp [intOf]; omega
        · have hlt : i < s.size := by
            rcases Nat.lt_or_ge i s.size with h | h
            · exact h
            · exact absurd (.inl (by rw [HSl.out]; omega)) hcut
          have hni : (i : Int) < (s.size : Int) := by omega
          have HSk := hide (HS.out.skip (by rw [HSl.out]; exact hlt) hcut)
          have hl1 : s.data.toList[i]? = some (s[i]'hlt) := by rw [List.getElem?_eq_getElem (by rw [HSl.out]; exact hlt), Array.getElem_toList]; rfl
          by_cases h59 : s[i]'hlt = 59
          · have hc1 : (((s[i]'hlt).toNat : Int) != 59) = false := by rw [h59]; rfl
            have hc1' : ((s[i]'hlt).toNat : Int) = 59 := by rw [h59]; rfl
            by_cases hl2 : i + 1 < s.size
            · have hc2 : ¬ ((i + 1 : Nat) : Int) ≥ (s.size : Int) := by omega
              have hc2' : ¬ (s.size : Int) ≤ ((i + 1 : Nat) : Int) := by omega
              have hl3 : s.data.toList[i + 1]? = some (s[i + 1]'hl2) := by rw [List.getElem?_eq_getElem (by rw [HSl.out]; exact hl2), Array.getElem_toList]; rfl
              have h32 : ¬ s[i + 1]'hl2 = 32 := fun e => hcut (.inr ⟨by rw [hl1, h59], by rw [hl3, e]⟩)
              have hc3' : ¬ ((s[i + 1]'hl2).toNat : Int) = 32 := by intro e; apply h32; apply UInt8.toNat_inj.1; show (s[i + 1]'hl2).toNat = 32; omega
              have hc3 : (((s[i + 1]'hl2).toNat : Int) != 32) = true := by rw [bne_iff_ne]; exact hc3'
              clear hcut hl1 hl3 h59 h32
              go_wp2_with fail
              go_roundw
              case rel => exact ⟨i + 1, b, xs, _, rfl, rfl, by go_num, by omega, HSk.out, hx6, HO.out, HWr.out⟩
              case measure => simp [intOf]; omega
            · have hc2 : ((i + 1 : Nat) : Int) ≥ (s.size : Int) := by omega
              have hc2' : (s.size : Int) ≤ ((i + 1 : Nat) : Int) := by omega
              clear hcut hl1 h59
              go_wp2_with fail
              go_roundw
              case rel => exact ⟨i + 1, b, xs, _, rfl, rfl, by go_num, by omega, HSk.out, hx6, HO.out, HWr.out⟩
              case measure => simp [intOf]; omega
          · have hc1' : ¬ ((s[i]'hlt).toNat : Int) = 59 := by intro e; apply h59; apply UInt8.toNat_inj.1; show (s[i]'hlt).toNat = 59; omega
            have hc1 : (((s[i]'hlt).toNat : Int) != 59) = true := by rw [bne_iff_ne]; exact hc1'
            clear hcut hl1 h59
            go_wp2_with fail
            go_roundw
            case rel => exact ⟨i + 1, b, xs, _, rfl, rfl, by go_num, by omega, HSk.out, hx6, HO.out, HWr.out⟩
            case measure => simp [intOf]; omega
      · have hki : ¬ (i : Int) ≤ (s.size : Int) := by omega
        have hall := HS.out.done (by rw [HSl.out]; exact hle)
        have hok := (mapM_txnL_some hall).2
        have HH := hide (readHL_all H0.out hall)
        obtain ⟨A, c, rfl, h8, h9, h10⟩ := HO.out.oldRow
        have HV := HVl.out xs A c wr hx6 (fun t ht => (txnOk_parts' (hok t ht)).2.2) h10
        have HSw := hide (show Sl tTxn wr (New w wr) xs (.slice A xs.length c) from HO.out.sl.mono (fun b hb => hb) (fun _ _ => rfl))
        clear hall hok h10
        cases hv : histV xs with
        | false =>
          rw [hv] at HV HH
          have HV := hide HV
          have HN := hide (show readHL s.data.toList = none by rw [HH.out]; rfl)
          clear hv
          go_wp2_with (go_at_call 9; refine HV.out.mono ?_; rintro e w2 ⟨rfl, hb2⟩; have HB2 := hide (HWr.out.trans (hb2.mono HWr.out.size)); clear hb2)
          go_ret2
          exact ⟨_, (HNo.out HN.out w2 _).1, (HNo.out HN.out _ _).2, HB2.out.alloc HB2.out.size _⟩
        | true =>
          rw [hv] at HV HH
          have HV := hide HV
          have HN := hide (show readHL s.data.toList = some xs by rw [HH.out]; rfl)
          clear hv
          go_wp2_with (go_at_call 9; refine HV.out.mono ?_; rintro e w2 ⟨rfl, hb2⟩; have HB2 := hide (HWr.out.trans (hb2.mono HWr.out.size)); have HS2 := hide (HSw.out.mono (S' := New w w2) (fun b hb => ⟨hb.1, Nat.lt_of_lt_of_le hb.2 hb2.size⟩) (fun b hb => hb2.block b hb.2)); clear hb2)
          go_ret2
          exact ⟨_, by rw [HN.out]; rfl, by unfold rdH; rw [HN.out]; exact HS2.out, HB2.out⟩
end Go.Proofs.YtjnghnkilnhacaaGreatDoor
namespace Go.Proofs.YtjnghnkilnhacaaGreatDoor
open Go.RowKit
set_option linter.unusedVariables false
set_option linter.unusedSimpArgs false

/-- The text of a history, "" where it is not valid. -/
def histB (h : List Txn) : ByteArray := ⟨(histL h).toArray⟩
theorem joinTail_snocP (w : Bs) : ∀ (ws : List Bs), Lib.joinTail [59, 32] (ws ++ [w]) = Lib.joinTail [59, 32] ws ++ 59 :: 32 :: w
  | [] => by simp [Lib.joinTail]
  | v :: ws => by
    have ih := joinTail_snocP w ws
    simp only [Lib.joinTail] at ih ⊢
    simp [ih]
theorem join_snocP (w : Bs) : ∀ (ws : List Bs), ws ≠ [] → Lib.join (ws ++ [w]) [59, 32] = Lib.join ws [59, 32] ++ 59 :: 32 :: w
  | [], h => absurd rfl h
  | v :: ws, _ => by
    rw [List.cons_append, Lib.join_cons, Lib.join_cons, joinTail_snocP, List.append_assoc]
/-- The text of the first k transactions. -/
def prefH (h : List Txn) (k : Nat) : Bs := Lib.join ((h.take k).map txnL) [59, 32]
theorem prefH_zero (h : List Txn) : prefH h 0 = [] := by unfold prefH; simp [Lib.join]
theorem prefH_one (h : List Txn) (h0 : 0 < h.length) : prefH h 1 = txnL h[0] := by
  unfold prefH
  rw [List.take_succ_eq_append_getElem h0]
  simp [Lib.join_one]
theorem prefH_succ (h : List Txn) (k : Nat) (hk : k < h.length) (h0 : 0 < k) : prefH h (k + 1) = prefH h k ++ 59 :: 32 :: txnL h[k] := by
  unfold prefH
  rw [List.take_succ_eq_append_getElem hk, List.map_append]
  exact join_snocP _ _ (fun e => by have := congrArg List.length e; rw [List.length_map, List.length_take, List.length_nil] at this; omega)
theorem prefH_all {h : List Txn} (hv : histV h = true) : prefH h h.length = histL h := by unfold prefH histL; rw [List.take_length, if_pos hv]
theorem txnB_size' (t : Txn) : (txnB t).size ≤ 43 := by
  unfold txnB
  by_cases h : txnOk t = true
  · rw [if_pos h]
    have h1 := prefL_len h t.Ops.length (Nat.le_refl _)
    have h2 := (txnOk_parts' h).2.2
    rw [prefL_all] at h1
    have h3 : (⟨(txnL t).toArray⟩ : ByteArray).size = (txnL t).length := by simp [ByteArray.size]
    omega
  · rw [if_neg h]
    decide
theorem txnL_len {t : Txn} (h : txnOk t = true) : (txnL t).length ≤ 43 := by
  have h1 := prefL_len h t.Ops.length (Nat.le_refl _)
  have h2 := (txnOk_parts' h).2.2
  rw [prefL_all] at h1
  omega
theorem prefH_len {h : List Txn} (hv : ∀ t ∈ h, txnOk t = true) : ∀ k, k ≤ h.length → (prefH h k).length ≤ 45 * k
  | 0, _ => by rw [prefH_zero]; simp
  | k + 1, hk => by
    have ih := prefH_len hv k (by omega)
    have hl := txnL_len (hv _ (List.getElem_mem (show k < h.length by omega)))
    cases k with
    | zero => rw [prefH_one h (by omega)]; omega
    | succ k =>
      rw [prefH_succ h (k + 1) (by omega) (by omega), List.length_append, List.length_cons, List.length_cons]
      omega
theorem histL_len (h : List Txn) : (histL h).length ≤ 270 := by
  by_cases hv : histV h = true
  · obtain ⟨h1, h2⟩ := histV_parts hv
    rw [← prefH_all hv]
    have := prefH_len h2 h.length (Nat.le_refl _)
    omega
  · unfold histL; rw [if_neg hv]; simp
set_option maxRecDepth 10000 in
set_option maxHeartbeats 4000000 in
theorem implHistoryText (xs : List Txn) (A : Option Addr) (c : Nat) (w : World) (hm : xs.length ≤ maxLen) (hA : Row tTxn w (Old w) A xs) : Calls Tryz.prog 7 #[.slice A xs.length c] w fun e w' => e = .returned (.string (histB xs)) ∧ Below w.heap.size w w' := by
  obtain ⟨i0, hi, hz0, hz1, hz2⟩ := info_parts infoStr_
  have HV := hide (implHistoryValid xs A c w hm hA)
  have HA := hide hA
  have hq : xs.length ≤ 9223372036854775807 := by simpa [maxLen] using hm
  clear hA hm
  cases hv : histV xs with
  | false =>
    have HR := hide (show histB xs = ⟨#[]⟩ by unfold histB histL; rw [hv]; rfl)
    rw [hv] at HV
    clear hv
    go_enter Tryz.func7, Tryz.ntmps7
    go_wp2_with (go_at_call 20; refine HV.out.mono ?_; rintro e w1 ⟨rfl, hb1⟩; have HB1 := hide hb1; clear hb1)
    go_ret
    exact ⟨ret_str HR.out.symm, HB1.out⟩
  | true =>
    obtain ⟨hl6, hok⟩ := histV_parts hv
    have HOk := hide hok
    have HAl := hide (prefH_all hv)
    have hml := histL_len xs
    rw [hv] at HV
    clear hv hok
    have hmk : ∀ W : World, (Instr.makeSlice 38 (.int .i64 0) (.int .i64 (xs.length : Int))).run Tryz.prog W = .ok (.slice (some ⟨W.heap.size, 0, none⟩) 0 xs.length) (W.alloc (.cells (madeCells #[.string ⟨#[]⟩] xs.length) 9)) := fun W => by
      have h := run_make_rowN (P := Tryz.prog) 38 9 i0 _ Tryz.underlying38 hi hz0 .i64 .i64 0 xs.length (Nat.zero_le _) (by rw [hz2]; omega) (by omega) W
      rw [hz1, show (Value.string ⟨#[]⟩).cells = #[.string ⟨#[]⟩] from rfl] at h
      simpa using h
    go_enter Tryz.func7, Tryz.ntmps7
    go_upto_region 3 with (go_at_call 20; refine HV.out.mono ?_; rintro e w1 ⟨rfl, hb1⟩; have HB1 := hide hb1; clear hb1)
    have HO2 := hide (Own.made (T := tStr) (e := 9) w1 (S := fun b => w.heap.size ≤ b ∧ Old (w1.alloc (.cells (madeCells #[.string ⟨#[]⟩] xs.length) 9)) b) (madeCells #[.string ⟨#[]⟩] xs.length) xs.length (by rw [size_madeCells]; simp [tStr]) (by simp only [maxLen]; omega) ⟨HB1.out.size, by simp [Old]⟩)
    have HB2 := hide (HB1.out.alloc HB1.out.size (.cells (madeCells #[.string ⟨#[]⟩] xs.length) 9))
    go_upto_region 5 with fail
    clear hmk
    generalize w1.alloc _ = w2 at HO2 HB2 ⊢
    go_loopw [3, 5, 14] (fun ws _ i wr => ∃ (k : Nat) (ps : List ByteArray) (v : Value), ws = v ∧ k ≤ xs.length ∧ i = .int .i64 k ∧ Hid (ps.map (·.data.toList) = (xs.take k).map txnL) ∧ Hid (Own tStr 9 wr (fun b => w.heap.size ≤ b ∧ Old wr b) ps v) ∧ Hid (Below w.heap.size w wr)) (fun _ _ i _ => xs.length - (intOf i).toNat)
    case atStart => exact ⟨0, [], _, rfl, Nat.zero_le _, rfl, by simp [Hid], HO2.out, HB2.out⟩
    case round =>
      obtain ⟨k, ps, v, rfl, hk, rfl, hL, hO, hb⟩ := hrel
      have HL := hide hL.out; have HO := hide hO.out; have HWr := hide hb.out
      clear hL hO hb HO2 HB2
      have HXl := hide (show ps.length = k by have h := congrArg List.length HL.out; rw [List.length_map, List.length_map, List.length_take] at h; omega)
      by_cases hlt : k < xs.length
      · have hki : (k : Int) < (xs.length : Int) := by omega
        have HTk := hide (List.take_succ_eq_append_getElem hlt)
        have hok := HOk.out _ (List.getElem_mem hlt)
        obtain ⟨b, off, A2, c2, rfl, hbS, d0, d1, d2, _, _, h3⟩ := at_Txn HA.out HWr.out hlt
        have HRo := hide h3
        have HLb := hide (show (txnB xs[k]).data.toList = txnL xs[k] by unfold txnB; rw [if_pos hok])
        have hlo : xs[k].Ops.length ≤ maxLen := by have := (txnOk_parts' hok).2.2; simp only [maxLen]; omega
        clear h3 hok
        generalize xs[k] = t at d0 d1 d2 HRo HLb hlo HTk
        have HIt := hide (fun (W : World) (h : Row tOp W (Old W) A2 t.Ops) => implTxnText t A2 c2 W hlo h)
        generalize txnB t = S at HIt HLb
        go_upto_region 7 with fail
        have HO4 := hide (HO.out.onlyBelow ((Below.refl wr.heap.size wr).alloc (Nat.le_refl _) (.cells #[.int .i64 t.Session, .slice A2 t.Ops.length c2, .bool t.Done] 41)))
        have HW4 := hide (HWr.out.alloc HWr.out.size (.cells #[.int .i64 t.Session, .slice A2 t.Ops.length c2, .bool t.Done] 41))
        have HV4 := hide (Blk.new wr 41 #[.int .i64 t.Session, .slice A2 t.Ops.length c2, .bool t.Done])
        have HR4 := hide (HRo.out.old ((Below.refl wr.heap.size wr).alloc (Nat.le_refl _) (.cells #[.int .i64 t.Session, .slice A2 t.Ops.length c2, .bool t.Done] 41)))
        clear d0 d1 d2 HO HRo
        generalize wr.alloc _ = w4 at HO4 HW4 HV4 HR4 ⊢
        generalize wr.heap.size = p4 at HV4 ⊢
        have z0 := HV4.out.cell 0; have z1 := HV4.out.cell 1; have z2 := HV4.out.cell 2
        simp only [List.getElem?_toArray, List.getElem?_cons_zero, List.getElem?_cons_succ] at z0 z1 z2
        have HSn := hide (show (ps ++ [S]).map (·.data.toList) = (xs.take (k + 1)).map txnL by rw [HTk.out, List.map_append, List.map_append, HL.out, List.map_cons, List.map_cons, HLb.out]; rfl)
        go_wp2_with (first | (go_at_call 21; refine (HIt.out w4 HR4.out).mono ?_; rintro e w5 ⟨rfl, hb5⟩; have HO5 := hide (HO4.out.onlyBelow hb5); have HW5 := hide (HW4.out.trans (hb5.mono HW4.out.size)); clear hb5) | (at_builtin; refine wpList_put tStr rfl (.tmp 18) (.tmp 21) 38 rfl 9 i0 _ 16 Tryz.underlying38 hi hz0 hz1 hz2 rfl (by decide) (fun b => w.heap.size ≤ b) (fun _ => False) ps S [.string S] _ rfl HO5.out _ rfl rfl (fun _ h => h.elim) (fun b hb => Nat.le_trans HW5.out.size hb) (by have := HXl.out; simp only [maxLen]; omega) (by have := HXl.out; omega) ?_; intro v6 w6 hO_ hK_; have HO6 := hide hO_; have HW6 := hide (below_only HW5.out hK_ HW5.out.size (fun i hi => hi)); clear hO_ hK_))
        go_roundw
        case rel => exact ⟨k + 1, ps ++ [S], _, rfl, by omega, by go_num, HSn.out, HO6.out, HW6.out⟩
        case measure => simp [intOf]; omega
      · obtain rfl : k = xs.length := by omega
        obtain ⟨A9, c9, rfl, hle9, hcm9, hR9⟩ := HO.out.sl
        have hLa : Lib.join (ps.map (·.data.toList)) [59, 32] = histL xs := by rw [← HAl.out]; unfold prefH; rw [HL.out]
        have HJ := join_any ps ⟨#[59, 32]⟩ A9 c9 wr hle9 (hR9.mono (fun b h => h.2) (fun _ _ => rfl)) (by have := HXl.out; omega) (by
          show (Lib.join (ps.map (·.data.toList)) [59, 32]).length ≤ _
          rw [hLa]; omega)
        have hd : (⟨#[59, 32]⟩ : ByteArray).data.toList = [59, 32] := rfl
        rw [hd, hLa] at HJ
        have HJ := hide HJ
        clear hR9 hLa hd
        go_wp2_with (go_at_call 22; refine HJ.out.mono ?_; rintro e w9 ⟨rfl, hb9⟩; have HB9 := hide (HWr.out.trans (hb9.mono HWr.out.size)); clear hb9)
        go_ret
        exact ⟨ret_str rfl, HB9.out⟩
set_option maxRecDepth 10000 in
set_option maxHeartbeats 4000000 in
theorem specHistoryText (xs : List Txn) (A : Option Addr) (c : Nat) (w : World) (hm : xs.length ≤ maxLen) (hA : Row tTxn w (Old w) A xs) (ht : opsN xs ≤ 1048576) (hno : ∀ t ∈ xs, t.Ops.length ≤ maxLen) : Calls Tryz.prog 8 #[.slice A xs.length c] w fun e w' => e = .returned (.string (histB xs)) ∧ Below w.heap.size w w' := by
  have HV := fun (W : World) (hb : Below w.heap.size w W) => specHistoryValid xs A c W hm (hA.old hb) ht
  have HA := hide hA
  have HNo := hide hno
  have hq : xs.length ≤ 9223372036854775807 := by simpa [maxLen] using hm
  clear hA hm hno
  cases hv : histV xs with
  | false =>
    have HR := hide (show histB xs = ⟨#[]⟩ by unfold histB histL; rw [hv]; rfl)
    have hpos : (0 : Int) < (xs.length : Int) := by
      cases xs with
      | nil => cases hv
      | cons a b => simp
    rw [hv] at HV
    have HV := hide HV
    clear hv
    go_enter Tryz.func8, Tryz.ntmps8
    go_upto_region 3 with fail
    go_loopw [3, 4] (fun out i wr => out = .string ⟨#[]⟩ ∧ i = .int .i64 0 ∧ Hid (Below w.heap.size w wr)) (fun _ i _ => 0)
    case atStart => exact ⟨rfl, rfl, Below.refl _ _⟩
    case round =>
      obtain ⟨rfl, rfl, hb⟩ := hrel
      have HB := hide hb.out
      clear hb
      go_wp2_with (go_at_call 9; refine (HV.out wr HB.out).mono ?_; rintro e w1 ⟨rfl, hb1⟩; have HB1 := hide (HB.out.trans (hb1.mono HB.out.size)); clear hb1)
      go_ret
      exact ⟨ret_str HR.out.symm, HB1.out⟩
  | true =>
    obtain ⟨hl6, hok⟩ := histV_parts hv
    have HOk := hide hok
    have HAl := hide (prefH_all hv)
    rw [hv] at HV
    have HV := hide HV
    clear hv
    have HPl := hide (prefH_len hok)
    clear hok
    go_enter Tryz.func8, Tryz.ntmps8
    go_upto_region 3 with fail
    go_loopw [3, 4] (fun out i wr => ∃ (k : Nat) (S : ByteArray), k ≤ xs.length ∧ i = .int .i64 k ∧ out = .string S ∧ Hid (S.data.toList = prefH xs k) ∧ Hid (Below w.heap.size w wr)) (fun _ i _ => xs.length - (intOf i).toNat)
    case atStart => exact ⟨0, _, Nat.zero_le _, rfl, rfl, by rw [prefH_zero]; rfl, Below.refl _ _⟩
    case round =>
      obtain ⟨k, S, hk, rfl, rfl, hS, hb⟩ := hrel
      have HS := hide hS.out; have HWr := hide hb.out
      clear hS hb
      have hSz : S.size ≤ 300 := by
        rw [ba_size HS.out]
        have := HPl.out k hk
        omega
      by_cases hlt : k < xs.length
      · have hki : (k : Int) < (xs.length : Int) := by omega
        have hok := HOk.out _ (List.getElem_mem hlt)
        have HLb := hide (show (txnB xs[k]).data.toList = txnL xs[k] by unfold txnB; rw [if_pos hok])
        have hTz := txnB_size' xs[k]
        have HSu := hide (fun h0 => prefH_succ xs k hlt h0)
        have HS1 := hide (fun (h0 : k = 0) => show prefH xs (k + 1) = txnL xs[k] from by subst h0; exact prefH_one xs hlt)
        have hlo : xs[k].Ops.length ≤ maxLen := HNo.out _ (List.getElem_mem hlt)
        have HAt := hide (fun (W : World) (hb : Below w.heap.size w W) => at_Txn HA.out hb hlt)
        clear hok
        generalize xs[k] = t at HAt HLb hlo HSu HS1 hTz
        have HSt := hide (fun (W : World) (A2 : Option Addr) (c2 : Nat) (h : Row tOp W (Old W) A2 t.Ops) => specTxnText t A2 c2 W hlo h)
        generalize txnB t = U at HSt HLb hTz
        go_upto_region 5 with (go_at_call 9; refine (HV.out wr HWr.out).mono ?_; rintro e w3 ⟨rfl, hb3⟩; have HW3 := hide (HWr.out.trans (hb3.mono HWr.out.size)); clear hb3)
        obtain ⟨b, off, A2, c2, rfl, hbS, d0, d1, d2, _, _, h3⟩ := HAt.out w3 HW3.out
        have HSt := hide (HSt.out w3 A2 c2 h3)
        clear h3 HAt
        by_cases h0 : k = 0
        · have hk0 : ¬ (0 : Int) < (k : Int) := by omega
          have HSn := hide (show (S ++ U).data.toList = prefH xs (k + 1) by
            rw [data_app, HS.out, HLb.out, HS1.out h0, h0, prefH_zero]; rfl)
          have ha1 : ∀ W, (Op.stringOp .add S U).run Tryz.prog W = .ok (.string (S ++ U)) W := fun W => run_string_add_sum _ _ _ (by omega)
          clear h0
          go_wp2_with (go_at_call 23; refine HSt.out.mono ?_; rintro e w5 ⟨rfl, hb5⟩; have HW5 := hide (HW3.out.trans (hb5.mono HW3.out.size)); clear hb5)
          go_roundw
          case rel => exact ⟨k + 1, _, by omega, by go_num, rfl, HSn.out, HW5.out⟩
          case measure => simp [intOf]; omega
        · have hk0 : (0 : Int) < (k : Int) := by omega
          have HSn := hide (show (S ++ ⟨#[59, 32]⟩ ++ U).data.toList = prefH xs (k + 1) by
            rw [data_app, data_app, HS.out, HLb.out, HSu.out (by omega)]; simp)
          have ha1 : ∀ W, (Op.stringOp .add S ⟨#[59, 32]⟩).run Tryz.prog W = .ok (.string (S ++ ⟨#[59, 32]⟩)) W := fun W => run_string_add_sum _ _ _ (by have : (⟨#[59, 32]⟩ : ByteArray).size = 2 := rfl; omega)
          have ha2 : ∀ W, (Op.stringOp .add (S ++ ⟨#[59, 32]⟩) U).run Tryz.prog W = .ok (.string (S ++ ⟨#[59, 32]⟩ ++ U)) W := fun W => run_string_add_sum _ _ _ (by rw [ByteArray.size_append]; have : (⟨#[59, 32]⟩ : ByteArray).size = 2 := rfl; omega)
          clear h0
          go_wp2_with (go_at_call 23; refine HSt.out.mono ?_; rintro e w5 ⟨rfl, hb5⟩; have HW5 := hide (HW3.out.trans (hb5.mono HW3.out.size)); clear hb5)
          go_roundw
          case rel => exact ⟨k + 1, _, by omega, by go_num, rfl, HSn.out, HW5.out⟩
          case measure => simp [intOf]; omega
      · obtain rfl : k = xs.length := by omega
        have HE := hide (show S = histB xs from ba_list (by rw [HS.out, HAl.out]))
        have hki : ¬ (xs.length : Int) < (xs.length : Int) := by omega
        go_wp2_with fail
        go_ret
        exact ⟨ret_str HE.out, HWr.out⟩
end Go.Proofs.YtjnghnkilnhacaaGreatDoor
namespace Go.Proofs.YtjnghnkilnhacaaGreatDoor
open Go.RowKit
set_option linter.unusedVariables false
set_option linter.unusedSimpArgs false

set_option maxRecDepth 10000 in
set_option maxHeartbeats 1000000 in
theorem sameOps_any (xs : List Op) (A B : Option Addr) (c d : Nat) (w : World) (hl : xs.length ≤ maxLen) (hA : Row tOp w (Old w) A xs) (hB : Row tOp w (Old w) B xs) :
    Calls Tryz.prog 58 #[.slice A xs.length c, .slice B xs.length d] w fun e w' => e = .returned (.bool true) ∧ Below w.heap.size w w' := by
  unfold maxLen at hl
  have HA := hide hA; have HB := hide hB
  clear hA hB
  go_enter Tryz.func58, Tryz.ntmps58
  go_wp2
  go_loopw [5] (fun i wr => ∃ k : Nat, k ≤ xs.length ∧ i = .int .i64 k ∧ Below w.heap.size w wr) (fun i _ => xs.length - (intOf i).toNat)
  case atStart => exact ⟨0, Nat.zero_le _, rfl, Below.refl _ _⟩
  case round =>
    obtain ⟨k, hk, rfl, hb⟩ := hrel
    by_cases hlt : k < xs.length
    · obtain ⟨b, off, hAe, hbS, c0, c1, c2⟩ := at_Op HA.out hb hlt
      obtain ⟨b2, off2, hBe, hbS2, d0, d1, d2⟩ := at_Op HB.out hb hlt
      subst hAe hBe
      have hki : (k : Int) < (xs.length : Int) := by omega
      generalize xs[k] = x at c0 c1 c2 d0 d1 d2
      clear hbS hbS2
      go_wp2
      go_quiet (fail)
      go_wp2
      go_roundw
      case rel => exact ⟨k + 1, by omega, by go_num, below_drewN hb _⟩
      case measure => simp [intOf]; omega
    · go_wp2
      go_ret
      exact ⟨rfl, hb⟩
set_option maxHeartbeats 1000000 in
theorem sameTxn_any (x : Txn) (w : World) (A B : Option Addr) (c d : Nat) (hl : x.Ops.length ≤ maxLen) (hA : Row tOp w (Old w) A x.Ops) (hB : Row tOp w (Old w) B x.Ops) :
    Calls Tryz.prog 30 #[.agg #[.int .i64 x.Session, .slice A x.Ops.length c, .bool x.Done], .agg #[.int .i64 x.Session, .slice B x.Ops.length d, .bool x.Done]] w fun e w' => e = .returned (.bool true) ∧ Below w.heap.size w w' := by
  go_enter Tryz.func30, Tryz.ntmps30
  go_wp2_with (go_at_call 58; refine (sameOps_any x.Ops A B c d _ hl (hA.old (((Below.refl _ w).alloc (Nat.le_refl _) _).alloc (by simp) _)) (hB.old (((Below.refl _ w).alloc (Nat.le_refl _) _).alloc (by simp) _))).mono ?_; rintro e w' ⟨rfl, hb'⟩; have HB := hide hb'; clear hb'; clear hA hB; obtain ⟨hc, hf⟩ := bcell HB.out; have hz : w.heap.size + 2 ≤ w'.heap.size := (by have := HB.out.size; simpa using this))
  go_ret
  exact ⟨rfl, (((Below.refl _ w).alloc (Nat.le_refl _) _).alloc (by simp) _).trans (HB.out.mono (by simp; omega))⟩
set_option maxRecDepth 10000 in
set_option maxHeartbeats 1000000 in
theorem sameHistory_any (xs : List Txn) (A B : Option Addr) (c d : Nat) (w : World) (hl : xs.length ≤ maxLen) (hn : ∀ x ∈ xs, x.Ops.length ≤ maxLen) (hA : Row tTxn w (Old w) A xs) (hB : Row tTxn w (Old w) B xs) :
    Calls Tryz.prog 12 #[.slice A xs.length c, .slice B xs.length d] w fun e w' => e = .returned (.bool true) ∧ Below w.heap.size w w' := by
  unfold maxLen at hl
  go_enter Tryz.func12, Tryz.ntmps12
  go_wp2
  go_loopw [5] (fun i wr => ∃ k : Nat, k ≤ xs.length ∧ i = .int .i64 k ∧ Below w.heap.size w wr) (fun i _ => xs.length - (intOf i).toNat)
  case atStart => exact ⟨0, Nat.zero_le _, rfl, Below.refl _ _⟩
  case round =>
    obtain ⟨k, hk, rfl, hb⟩ := hrel
    by_cases hlt : k < xs.length
    · have hi0 := hn xs[k] (List.getElem_mem hlt)
      obtain ⟨b, off, A3, c3, rfl, hbS, c0_, c1_, c2_, hi1, hi2, hi3⟩ := at_Txn hA hb hlt
      obtain ⟨b2, off2, A4, c4, rfl, hbS2, d0_, d1_, d2_, hj1, hj2, hj3⟩ := at_Txn hB hb hlt
      clear hA hB hn
      have HI := hide hi3; clear hi3; have HJ := hide hj3; clear hj3
      go_wp2
      go_still_tail 8, (by kernel_rfl)
      have hbd : Below wr.heap.size wr wr.drew := (Below.refl _ _).drew
      change wpList _ _ _ _ _ wr.drew
      have hcall := (sameTxn_any xs[k] wr.drew A3 A4 c3 c4 hi0 (HI.out.old hbd) (HJ.out.old hbd))
      have hb2 : Below w.heap.size w wr.drew := hb.drew
      clear hbd
      generalize wr.drew = w2 at hb2 hcall ⊢
      have HC := hide hcall
      clear hcall
      go_wp2_with (go_at_call 30; refine HC.out.mono ?_; rintro e w' ⟨rfl, hb'⟩)
      go_roundw
      case rel => exact ⟨k + 1, by omega, by go_num, hb2.trans (hb'.mono hb2.size)⟩
      case measure => simp [intOf]; omega
    · clear hA hB hn
      go_wp2
      go_ret
      exact ⟨rfl, hb⟩
end Go.Proofs.YtjnghnkilnhacaaGreatDoor
namespace Go.Proofs.YtjnghnkilnhacaaGreatDoor
open Go.RowKit
set_option linter.unusedVariables false
set_option linter.unusedSimpArgs false

theorem histB_list (h : List Txn) : (histB h).data.toList = histL h := rfl
theorem histB_size (h : List Txn) : (histB h).size ≤ 270 := by
  have h1 := histL_len h
  have h2 : (histB h).size = (histL h).length := by unfold histB; simp [ByteArray.size]
  omega
theorem rdH_of {h : List Txn} (hv : histV h = true) : rdH (histB h).data.toList = h ∧ (readHL (histB h).data.toList).isSome = true := by
  unfold rdH
  rw [histB_list, readHL_of hv]
  exact ⟨rfl, rfl⟩
set_option maxRecDepth 10000 in
set_option maxHeartbeats 4000000 in
theorem lawFnHistText (bs : List Int) (A : Option Addr) (c : Nat) (w : World) (hm : bs.length ≤ maxLen) (hc : bs.length ≤ c) (hcm : c ≤ maxLen) (hA : Row tByte w (Old w) A bs) (hE : ErrOk w) :
    Calls Tryz.prog 3 #[.slice A bs.length c] w fun e w' => e = .returned (.bool true) ∧ Below w.heap.size w w' := by
  have hq : bs.length ≤ 9223372036854775807 := by simpa [maxLen] using hm
  by_cases hl : bs.length ≤ 1048576
  · have HD := hide (drawHistoryText bs A c w hl hc hcm hA)
    have HE := hide hE
    clear hA hE
    go_enter Tryz.func3, Tryz.ntmps3
    go_upto_region 4 with (go_at_call 6; refine HD.out.mono ?_; rintro e w2 ⟨xs, v, rfl, hX, hS, hb⟩; obtain ⟨A1, c1, rfl, _, _, hR⟩ := hS; have HR2 := hide (show Row tTxn w2 (Old w2) A1 xs from hR); have HXs := hide hX; have HB2 := hide hb; clear hX hR hb)
    obtain ⟨hxm, hx20, hxo, hxn⟩ := HXs.out.le
    have hxo' : opsN xs ≤ 1048576 := hxo
    have hxn' : ∀ t ∈ xs, t.Ops.length ≤ maxLen := fun t ht => by have := hxn t ht; simp only [maxLen]; omega
    have HIt := hide (fun (W : World) (hb : Below w2.heap.size w2 W) => implHistoryText xs A1 c1 W hxm (HR2.out.old hb))
    have HSt := hide (fun (W : World) (hb : Below w2.heap.size w2 W) => specHistoryText xs A1 c1 W hxm (HR2.out.old hb) hxo' hxn')
    have HVt := fun (W : World) (hb : Below w2.heap.size w2 W) => specHistoryValid xs A1 c1 W hxm (HR2.out.old hb) hxo'
    have HRd := hide (fun (W : World) (h : ErrOk W) => implReadHistory (histB xs) W (Nat.le_trans (histB_size xs) (by decide)) h)
    have HRt := hide (fun h => rdH_of (h := xs) h)
    have HNo := hide (fun (h : histV xs = false) => show histB xs = ⟨#[]⟩ from by unfold histB histL; rw [h]; rfl)
    have HSm := hide (fun (W : World) (B : Option Addr) (d : Nat) (hB : Row tTxn W (Old W) B xs) (hb : Below w2.heap.size w2 W) => sameHistory_any xs B A1 d c1 W hxm hxn' hB (HR2.out.old hb))
    generalize hq1 : histV xs = q1 at HVt HRt HNo
    have HVt := hide HVt
    generalize histB xs = S at HIt HSt HRd HRt HNo
    clear HR2 HD hxo hxo' hxn hxn' hq1
    go_upto_region 5 with (go_at_call 7; refine (HIt.out w2 (Below.refl _ _)).mono ?_; rintro e w3 ⟨rfl, hb⟩; have HB3 := hide hb; clear hb)
    have hss : (S.toList != S.toList) = false := by simp
    go_upto_region 7 with (go_at_call 8; refine (HSt.out w3 HB3.out).mono ?_; rintro e w4 ⟨rfl, hb⟩; have HB4 := hide (HB3.out.trans (hb.mono HB3.out.size)); clear hb)
    cases q1 with
    | false =>
      have HN2 := HNo.out rfl
      subst HN2
      go_wp2_with (first | (go_at_call 9; refine (HVt.out w4 HB4.out).mono ?_; rintro e w5 ⟨rfl, hb⟩; have HB5 := hide (HB4.out.trans (hb.mono HB4.out.size)); clear hb) | (go_at_call 10; refine (alive_any w5).mono ?_; rintro e w6 ⟨rfl, hb⟩; have HB6 := hide (HB2.out.trans ((HB5.out.trans (hb.mono HB5.out.size)).mono HB2.out.size)); clear hb))
      go_ret
      exact ⟨rfl, HB6.out⟩
    | true =>
      obtain ⟨hr1, hr2⟩ := HRt.out rfl
      have HRd := HRd.out
      rw [hr1, hr2] at HRd
      have HRd := hide HRd
      clear hr1 hr2
      go_wp2_with (first | (go_at_call 9; refine (HVt.out w4 HB4.out).mono ?_; rintro e w5 ⟨rfl, hb⟩; have HB5 := hide (HB4.out.trans (hb.mono HB4.out.size)); have HE5 := hide (HE.out.below (HB2.out.trans (HB5.out.mono HB2.out.size))); clear hb) | (go_at_call 11; refine (HRd.out w5 HE5.out).mono ?_; rintro e w6 ⟨v, rfl, hH, hb⟩; obtain ⟨A6, c6, rfl, _, _, hR6⟩ := hH.sl; have HR6 := hide (hR6.mono (S' := Old w6) (fun b h => h.2) (fun _ _ => rfl)); have HB6 := hide (HB5.out.trans (hb.mono HB5.out.size)); clear hH hb hR6) | (go_at_call 12; refine (HSm.out w6 A6 c6 HR6.out HB6.out).mono ?_; rintro e w8 ⟨rfl, hb⟩; have HB8 := hide (HB2.out.trans ((HB6.out.trans (hb.mono HB6.out.size)).mono HB2.out.size)); clear hb))
      go_ret
      exact ⟨rfl, HB8.out⟩
  · clear hA hE
    go_enter Tryz.func3, Tryz.ntmps3
    go_wp2_with fail
    go_ret
    exact ⟨rfl, Below.refl _ _⟩
end Go.Proofs.YtjnghnkilnhacaaGreatDoor
