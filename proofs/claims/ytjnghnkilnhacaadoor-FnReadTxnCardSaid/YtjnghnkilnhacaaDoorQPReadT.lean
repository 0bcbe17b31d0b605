/- The law FnReadTxn: accepted texts are canonical. -/
import Derived.Test.YtjnghnkilnhacaaDoorQOpenByte
import Derived.Test.YtjnghnkilnhacaaDoorQLawRdT
import Derived.Test.YtjnghnkilnhacaaDoorQTxtI
namespace Go.Proofs.YtjnghnkilnhacaaDoor
open Go.RowKit
set_option linter.unusedVariables false
set_option linter.unusedSimpArgs false

theorem readTL_text {s : ByteArray} {t : Txn} (h : readTL s.data.toList = some t) : txnB t = s := by
  obtain ⟨h1, h2⟩ := readTL_some h
  unfold txnB
  rw [if_pos h1, h2]
set_option maxRecDepth 10000 in
set_option maxHeartbeats 4000000 in
theorem lawFnReadTxn (bs : List Int) (A : Option Addr) (c : Nat) (w : World) (hm : bs.length ≤ maxLen) (hc : bs.length ≤ c) (hcm : c ≤ maxLen) (hA : Row tByte w (Old w) A bs) (hE : ErrOk w) :
    Calls Tryd.prog 5 #[.slice A bs.length c] w fun e w' => e = .returned (.bool true) ∧ Below w.heap.size w w' := by
  have hq : bs.length ≤ 9223372036854775807 := by simpa [maxLen] using hm
  by_cases hl : bs.length ≤ 1048576
  · have HD := hide (drawReadTxn bs A c w hl hc hcm hA)
    have HE := hide hE
    clear hA hE
    go_enter Tryd.func5, Tryd.ntmps5
    go_upto_region 4 with (go_at_call 17; refine HD.out.mono ?_; rintro e w1 ⟨s, rfl, hs, hb⟩; have HSz := hide hs; have HB1 := hide hb; clear hs hb)
    have hsz := HSz.out
    have hq2 : s.size ≤ 9223372036854775807 := by omega
    have HRI := hide (fun (W : World) (h : ErrOk W) => implReadTxn s W (by omega) h)
    have HRS := hide (fun (W : World) => specReadTxn s W (by omega))
    obtain ⟨s2, hs2⟩ : ∃ s2 : ByteArray, s ++ ⟨#[32]⟩ = s2 := ⟨_, rfl⟩
    have hadd : ∀ W, (Op.stringOp .add s ⟨#[32]⟩).run Tryd.prog W = .ok (.string (s ++ ⟨#[32]⟩)) W := fun W => run_string_add_sum _ _ _ (by have : (⟨#[32]⟩ : ByteArray).size = 1 := rfl; omega)
    have HR2 := hide (fun (W : World) (h : ErrOk W) => implReadTxn (s ++ ⟨#[32]⟩) W (by rw [ByteArray.size_append]; have : (⟨#[32]⟩ : ByteArray).size = 1 := rfl; omega) h)
    have hmo : readTL (s ++ ⟨#[32]⟩).data.toList = none := by rw [data_app]; exact readTL_sp _
    have HR2 := HR2.out
    rw [hmo, hs2] at HR2
    rw [hs2] at hadd
    have HR2 := hide HR2
    clear hmo hs2
    have HTx := hide (fun (t : Txn) (h : readTL s.data.toList = some t) => readTL_text (s := s) h)
    have HRz := hide (fun (h : readTL s.data.toList = none) => show (rdT s.data.toList).Ops.length = 0 from by unfold rdT; rw [h]; rfl)
    have HRy := hide (fun (t : Txn) (h : readTL s.data.toList = some t) => show rdT s.data.toList = t from by unfold rdT; rw [h]; rfl)
    have hol := rdT_len s.data.toList
    generalize hrt : rdT s.data.toList = t at HRI HRS hol HRz HRy
    have htm : t.Ops.length ≤ maxLen := by simp only [maxLen]; omega
    have HE1 := hide (HE.out.below HB1.out)
    obtain ⟨ok, hok⟩ : ∃ ok, (readTL s.data.toList).isSome = ok := ⟨_, rfl⟩
    have HRI := HRI.out; have HRS := HRS.out
    rw [hok] at HRI HRS
    have HRI := hide HRI; have HRS := hide HRS
    have HOk := hide hok
    clear hok hrt HD
    go_upto_region 5 with (go_at_call 7; refine (HRI.out w1 HE1.out).mono ?_; rintro e w2 ⟨v, g, rfl, hH, _, hb⟩; obtain ⟨A1, c1, rfl, _, _, hR⟩ := hH.old; have HR1 := hide hR; have HB2 := hide (HB1.out.trans (hb.mono HB1.out.size)); clear hH hb hR)
    have hbz := (Below.refl w2.heap.size w2).alloc (Nat.le_refl _) (.cells #[.int .i64 t.Session, .slice A1 t.Ops.length c1, .bool t.Done] 24)
    have HV3 := hide (Blk.new w2 24 #[.int .i64 t.Session, .slice A1 t.Ops.length c1, .bool t.Done])
    have HR3 := hide (HR1.out.old hbz)
    have HB3 := hide (HB2.out.trans (hbz.mono HB2.out.size))
    clear hbz HR1 HB2 HB1 HE1
    generalize w2.alloc _ = w3 at HV3 HR3 HB3 ⊢
    generalize w2.heap.size = p at HV3 ⊢
    go_upto_region 6 with (go_at_call 6; refine (HRS.out w3).mono ?_; rintro e w4 ⟨v, rfl, hO, hb⟩; obtain ⟨A4, c4, rfl, _, _, hR⟩ := hO.oldRow; have HR4 := hide hR; have HB4 := hide hb; clear hO hb hR)
    have hbz := (Below.refl w4.heap.size w4).alloc (Nat.le_refl _) (.cells #[.int .i64 t.Session, .slice A4 t.Ops.length c4, .bool t.Done] 24)
    have HV5 := hide (Blk.new w4 24 #[.int .i64 t.Session, .slice A4 t.Ops.length c4, .bool t.Done])
    have HR5 := hide (HR4.out.old hbz)
    have HB5 := hide (HB4.out.trans (hbz.mono HB4.out.size))
    clear hbz HR4 HB4
    generalize w4.alloc _ = w5 at HV5 HR5 HB5 ⊢
    generalize w4.heap.size = p5 at HV5 ⊢
    have HV6 := hide (HV3.out.below HB5.out HV3.out.lt)
    have HR6 := hide (HR3.out.old HB5.out)
    have x0 := HV6.out.cell 0; have x1 := HV6.out.cell 1; have x2 := HV6.out.cell 2
    have y0 := HV5.out.cell 0; have y1 := HV5.out.cell 1; have y2 := HV5.out.cell 2
    simp only [List.getElem?_toArray, List.getElem?_cons_zero, List.getElem?_cons_succ] at x0 x1 x2 y0 y1 y2
    have HSm := hide (sameTxn_any t w5 A1 A4 c1 c4 htm HR6.out HR5.out)
    have hoo : (ok != ok) = false := by simp
    have HB5 := hide (HB3.out.trans (HB5.out.mono HB3.out.size))
    go_upto_region 8 with (go_at_call 16; refine HSm.out.mono ?_; rintro e w7 ⟨rfl, hb⟩; have HV7 := hide (HV6.out.below hb HV6.out.lt); have HR7 := hide (HR6.out.old hb); have HB7 := hide (HB5.out.trans (hb.mono HB5.out.size)); clear hb)
    clear x0 x1 x2 y0 y1 y2 HV3 HR3 HB3 HV5 HR5 HB5 HV6 HR6 HSm
    cases ok with
    | false =>
      have hn : readTL s.data.toList = none := by have := HOk.out; cases h : readTL s.data.toList with | none => rfl | some _ => rw [h] at this; cases this
      have hz := HRz.out hn
      clear hn
      have x1 := HV7.out.cell 1
      simp only [List.getElem?_toArray, List.getElem?_cons_zero, List.getElem?_cons_succ] at x1
      rw [hz] at x1
      go_wp2_with (go_at_call 15; refine (alive_any w7).mono ?_; rintro e w8 ⟨rfl, hb⟩; have HB8 := hide (HB7.out.trans (hb.mono HB7.out.size)); clear hb)
      go_ret
      exact ⟨rfl, HB8.out⟩
    | true =>
      have HTe := hide (show txnB t = s from by
        have := HOk.out
        cases h : readTL s.data.toList with
        | none => rw [h] at this; cases this
        | some t' => rw [HRy.out t' h]; exact HTx.out t' h)
      have HE7 := hide (HE.out.below HB7.out)
      go_upto_region 11 with (go_at_call 7; refine (HR2.out w7 HE7.out).mono ?_; rintro e w8 ⟨v, g, rfl, hH, _, hb⟩; obtain ⟨A8, c8, rfl, _, _, _⟩ := hH.old; have HB8 := hide hb; clear hH hb)
      have HB9 := hide (HB8.out.alloc HB8.out.size (.cells #[.int .i64 (rdT s2.data.toList).Session, .slice A8 (rdT s2.data.toList).Ops.length c8, .bool (rdT s2.data.toList).Done] 24))
      generalize World.alloc _ _ = w9 at HB9 ⊢
      clear HB8
      have HV9 := hide (HV7.out.below HB9.out HV7.out.lt)
      have x0 := HV9.out.cell 0; have x1 := HV9.out.cell 1; have x2 := HV9.out.cell 2
      simp only [List.getElem?_toArray, List.getElem?_cons_zero, List.getElem?_cons_succ] at x0 x1 x2
      have HT9 := implTxnText t A1 c1 w9 htm (HR7.out.old HB9.out)
      rw [HTe.out] at HT9
      have HT9 := hide HT9
      have hss : (s.toList == s.toList) = true := by simp
      have HB9 := hide (HB7.out.trans (HB9.out.mono HB7.out.size))
      go_wp2_with (go_at_call 12; refine HT9.out.mono ?_; rintro e w10 ⟨rfl, hb⟩; have HB10 := hide (HB9.out.trans (hb.mono HB9.out.size)); clear hb)
      go_ret
      exact ⟨rfl, HB10.out⟩
  · clear hA hE
    go_enter Tryd.func5, Tryd.ntmps5
    go_wp2_with fail
    go_ret
    exact ⟨rfl, Below.refl _ _⟩
end Go.Proofs.YtjnghnkilnhacaaDoor
