/- The program's ReadOp. The reference's l3Words. The conversions of the laws package make new memory that reads as their argument: transactions. The reference's copies of transactions. The reference's copies of histories: l1OwnTxnList. -/
import Derived.Test.YtjnghnkilnhacaaDoorQTxtR
import Derived.Test.YtjnghnkilnhacaaDoorQTxtI
import Derived.Test.YtjnghnkilnhacaaDoorQVals
import Derived.Test.YtjnghnkilnhacaaDoorQHBox
import Derived.Test.YtjnghnkilnhacaaDoorProg
import Derived.Test.YtjnghnkilnhacaaDoorQBuild
import Derived.Test.YtjnghnkilnhacaaDoorQTabT
import Derived.Test.YtjnghnkilnhacaaDoorQTxtH
import Derived.Laws.BytesArg
namespace Go.Proofs.YtjnghnkilnhacaaDoor
open Go.RowKit
set_option linter.unusedVariables false
set_option linter.unusedSimpArgs false

theorem atoi_dec' : ∀ n : Fin 100, Lib.atoiAll (decL n.val) = .ok (n.val : Int) := by decide +kernel
theorem atoi_dec {n : Nat} (h : n < 100) : Lib.atoiAll (decL n) = .ok (n : Int) := atoi_dec' ⟨n, h⟩
/-- The program's reading: the text of what was read must be the text. -/
theorem readOpL_via {l : Bs} {n : Int} {ev : Value} (h4 : 4 ≤ l.length) (ha : AtoiV (l.drop 3) n ev) :
    readOpL l = if (opB ⟨if l[0] = 119 then 2 else 1, (l[1].toNat : Int) - 48, n⟩).data.toList = l then some ⟨if l[0] = 119 then 2 else 1, (l[1].toNat : Int) - 48, n⟩ else none := by
  by_cases hb : (opB ⟨if l[0] = 119 then 2 else 1, (l[1].toNat : Int) - 48, n⟩).data.toList = l
  · rw [if_pos hb]
    unfold opB at hb
    by_cases hok : opOk ⟨if l[0] = 119 then 2 else 1, (l[1].toNat : Int) - 48, n⟩ = true
    · rw [if_pos hok] at hb
      have := readOpL_of hok
      have hb : opL ⟨if l[0] = 119 then 2 else 1, (l[1].toNat : Int) - 48, n⟩ = l := hb
      rw [hb] at this
      exact this
    · rw [if_neg hok] at hb
      exfalso
      have hb : ([] : Bs) = l := hb
      rw [← hb] at h4
      simp at h4
  · rw [if_neg hb]
    cases hr : readOpL l with
    | none => rfl
    | some o =>
      exfalso
      obtain ⟨hok, hl⟩ := readOpL_some hr
      obtain ⟨h1, h2, h3⟩ := opOk_parts' hok
      have hf := opL_form hok
      rw [hl] at hf
      obtain ⟨k, a, e, v, rfl⟩ : ∃ k a e v, l = k :: a :: e :: v := by
        match l, h4 with
        | k :: a :: e :: v, _ => exact ⟨k, a, e, v, rfl⟩
      injection hf with e1 hf
      injection hf with e2 hf
      injection hf with e3 e4
      have hv : (k :: a :: e :: v).drop 3 = v := rfl
      rw [hv, e4] at ha
      unfold AtoiV at ha
      rw [atoi_dec (by omega)] at ha
      obtain ⟨hn, _⟩ := ha
      apply hb
      have ha2 : ((k :: a :: e :: v)[1].toNat : Int) - 48 = o.Key := by
        show ((a.toNat : Int)) - 48 = o.Key
        rw [e2]
        have : (UInt8.ofNat (48 + o.Key.toNat)).toNat = 48 + o.Key.toNat := by simp; omega
        rw [this]; omega
      have hk2 : (if (k :: a :: e :: v)[0] = 119 then (2 : Int) else 1) = o.Kind := by
        show (if k = 119 then (2 : Int) else 1) = o.Kind
        rw [e1]
        rcases h1 with h1 | h1 <;> rw [h1] <;> rfl
      have hn2 : n = o.Value := by rw [hn]; omega
      rw [hk2, ha2, hn2]
      unfold opB
      rw [if_pos hok]
      exact hl
theorem readOV_some {l : Bs} {o : Op} (h : readOpL l = some o) : readOV l = .tuple #[.agg #[.int .i64 o.Kind, .int .i64 o.Key, .int .i64 o.Value], .bool true] := by unfold readOV; rw [h]; rfl
theorem readOV_none {l : Bs} (h : readOpL l = none) : readOV l = .tuple #[.agg #[.int .i64 0, .int .i64 0, .int .i64 0], .bool false] := by unfold readOV; rw [h]; rfl
set_option maxRecDepth 10000 in
set_option maxHeartbeats 4000000 in
theorem implReadOp (s : ByteArray) (w : World) (hs : s.size ≤ 281474976710656) (hE : ErrOk w) : Calls Tryd.prog 24 #[.string s] w fun e w' => e = .returned (readOV s.data.toList) ∧ Below w.heap.size w w' := by
  have HSz := hide (show s.size = s.data.toList.length by rw [Array.length_toList]; rfl)
  have HE := hide hE
  have HB0 := hide ((Below.refl _ w).alloc (Nat.le_refl _) (.cells #[.int .i64 0, .int .i64 0, .int .i64 0] 41))
  have HX0 := hide (Blk.new w 41 #[.int .i64 0, .int .i64 0, .int .i64 0])
  have hz0 : w.heap.size < (w.alloc (.cells #[.int .i64 0, .int .i64 0, .int .i64 0] 41)).heap.size := by simp
  clear hE
  by_cases h4 : 4 ≤ s.size
  · have h4s : ¬ (s.size : Int) < 4 := by omega
    have h3s : (3 : Int) ≤ (s.size : Int) := by omega
    have h0i : (0 : Int) < (s.size : Int) := by omega
    have h1i : (1 : Int) < (s.size : Int) := by omega
    have hll : 4 ≤ s.data.toList.length := by rw [← HSz.out]; exact h4
    have hx0 : s.data.toList[0] = s[0]'(by omega) := by rw [Array.getElem_toList]; rfl
    have hx1 : s.data.toList[1] = s[1]'(by omega) := by rw [Array.getElem_toList]; rfl
    obtain ⟨x, hx⟩ : ∃ x : Int, x = ((s[1]'(by omega)).toNat : Int) - 48 := ⟨_, rfl⟩
    have hlt9 : (s[1]'(by omega)).toNat < 256 := UInt8.toNat_lt _
    have hwr0 : wrap64 ((s[1]'(by omega)).toNat : Int) = ((s[1]'(by omega)).toNat : Int) := by unfold wrap64; omega
    have hwr : wrap64 x = x := by rw [hx]; unfold wrap64; omega
    have hx9 : ((s[1]'(by omega)).toNat : Int) - 48 = x := hx.symm
    by_cases g0 : s[0]'(by omega) = 119
    · have hk0b : (((s[0]'(by omega)).toNat : Int) == 119) = true := by rw [g0]; rfl
      have HGd := hide (fun (n : Int) (ev : Value) (ha : AtoiV (s.data.toList.drop 3) n ev) => show readOpL s.data.toList = if (opB ⟨2, x, n⟩).data.toList = s.data.toList then some ⟨2, x, n⟩ else none by
        have h9 := readOpL_via hll ha
        rw [hx0, hx1, hx9, if_pos g0] at h9
        exact h9)
      have HAt := hide (fun W (hE : ErrOk W) => show Calls Tryd.prog 44 #[.string (s.extract 3 s.size)] W fun e w' => ∃ n ev, e = .returned (.tuple #[.int .i64 n, ev]) ∧ AtoiV (s.data.toList.drop 3) n ev ∧ Below W.heap.size W w' from by
        have h := atoi_any (s.extract 3 s.size) W hE (by rw [ByteArray.size_extract]; omega)
        rw [Lib.extract_data, List.take_of_length_le (by rw [List.length_drop, ← HSz.out]; omega)] at h
        exact h)
      have HSl := hide (ByteArray.toList_eq s)
      clear g0 hx hll hx0 hx1 hlt9
      go_enter Tryd.func24, Tryd.ntmps24
      go_upto_region 1 with fail
      generalize w.alloc _ = w1 at HB0 HX0 hz0 ⊢
      go_upto_region 6 with fail
      have HV2 := hide (Blk.new w1 41 #[.int .i64 2, .int .i64 x, .int .i64 0])
      have HX2 := hide (HX0.out.alloc (.cells #[.int .i64 2, .int .i64 x, .int .i64 0] 41))
      have HB2 := hide (HB0.out.alloc HB0.out.size (.cells #[.int .i64 2, .int .i64 x, .int .i64 0] 41))
      clear HB0 HX0 hwr hwr0 hx9
      generalize w1.alloc _ = w2 at HV2 HX2 HB2 ⊢
      have hp : w.heap.size < w1.heap.size := hz0
      generalize hpe : w1.heap.size = p at HV2 hp ⊢
      clear hpe hz0
      have c2 := HV2.out.cell 2; have d2 := HV2.out.frozen 2
      simp only [List.getElem?_toArray, List.getElem?_cons_zero, List.getElem?_cons_succ] at c2
      go_upto_region 7 with (go_at_call 44; refine (HAt.out _ (HE.out.below HB2.out)).mono ?_; rintro e w3 ⟨n, ev, rfl, hav, hb3⟩; have HR := hide (HGd.out n ev hav); have HV3 := hide (HV2.out.below hb3 HV2.out.lt); have HX3 := hide (HX2.out.below hb3 HX2.out.lt); have HB3 := hide (HB2.out.trans (hb3.mono HB2.out.size)); have e2 := HV3.out.cell 2; have f2 := HV3.out.frozen 2; simp only [List.getElem?_toArray, List.getElem?_cons_zero, List.getElem?_cons_succ] at e2; clear hb3 hav c2 d2)
      have HV4 := hide (show Blk (w3.setCell ⟨p, 2, none⟩ (.int .i64 n)) p 41 #[.int .i64 2, .int .i64 x, .int .i64 n] from HV3.out.set_ 2 _)
      have HX4 := hide (HX3.out.far (p := ⟨p, 2, none⟩) (by simp only; omega) (.int .i64 n))
      have HB4 := hide (HB3.out.setCell (p := ⟨p, 2, none⟩) (by simp only; omega) (.int .i64 n))
      clear e2 f2 HV3 HX3 HB3
      generalize w3.setCell _ _ = w4 at HV4 HX4 HB4 ⊢
      have HOt := opText_any ⟨2, x, n⟩
      obtain ⟨T, hT⟩ : ∃ T : ByteArray, T = opText ⟨2, x, n⟩ := ⟨_, rfl⟩
      rw [← opText_eq, ← hT] at HR
      rw [← hT] at HOt
      have HTl := hide (ByteArray.toList_eq T)
      have HOt := hide HOt
      clear hT
      have y0 := HV4.out.cell 0; have y1 := HV4.out.cell 1; have y2 := HV4.out.cell 2
      simp only [List.getElem?_toArray, List.getElem?_cons_zero, List.getElem?_cons_succ] at y0 y1 y2
      by_cases hd : T.data.toList = s.data.toList
      · have hb1 : (T.toList == s.toList) = true := by rw [beq_iff_eq, HTl.out, HSl.out, hd]
        have hb2 : T.toList = s.toList := by rw [HTl.out, HSl.out, hd]
        have hb3 : (T.toList != s.toList) = false := by rw [bne_eq_false_iff_eq, hb2]
        have HRr := hide (show readOV s.data.toList = .tuple #[.agg #[.int .i64 2, .int .i64 x, .int .i64 n], .bool true] from readOV_some (o := ⟨2, x, n⟩) (by rw [HR.out, if_pos hd]))
        clear hd
        go_wp2_with (go_at_call 33; refine (HOt.out _).mono ?_; rintro e w5 ⟨rfl, hb5⟩; have HB5 := hide (HB4.out.trans (hb5.mono HB4.out.size)); have HV5 := HV4.out.below hb5 HV4.out.lt; have HX5 := HX4.out.below hb5 HX4.out.lt; have z0 := HV5.cell 0; have z1 := HV5.cell 1; have z2 := HV5.cell 2; have u0 := HX5.cell 0; have u1 := HX5.cell 1; have u2 := HX5.cell 2; have v0 := HX5.frozen 0; have v1 := HX5.frozen 1; have v2 := HX5.frozen 2; simp only [List.getElem?_toArray, List.getElem?_cons_zero, List.getElem?_cons_succ] at z0 z1 z2 u0 u1 u2; clear hb5 HV5 HX5 y0 y1 y2)
        refine bodyPost_ret (v := .tuple #[.agg #[.int .i64 2, .int .i64 x, .int .i64 n], .bool true]) (by simp [results, Tryd.results24, go_sem, u0, u1, u2]) rfl ⟨by rw [HRr.out], ?_⟩
        repeat (first | refine Below.setCell ?_ (by simp; try omega) _ | exact HB5.out)
      · have hb1 : (T.toList == s.toList) = false := by rw [beq_eq_false_iff_ne, HTl.out, HSl.out]; exact hd
        have hb2 : ¬ T.toList = s.toList := by rw [HTl.out, HSl.out]; exact hd
        have hb3 : (T.toList != s.toList) = true := by rw [bne_iff_ne]; exact hb2
        have HRr := hide (show readOV s.data.toList = .tuple #[.agg #[.int .i64 0, .int .i64 0, .int .i64 0], .bool false] from readOV_none (by rw [HR.out, if_neg hd]))
        clear hd
        go_wp2_with (go_at_call 33; refine (HOt.out _).mono ?_; rintro e w5 ⟨rfl, hb5⟩; have HB5 := hide (HB4.out.trans (hb5.mono HB4.out.size)); have HV5 := HV4.out.below hb5 HV4.out.lt; have HX5 := HX4.out.below hb5 HX4.out.lt; have z0 := HV5.cell 0; have z1 := HV5.cell 1; have z2 := HV5.cell 2; have u0 := HX5.cell 0; have u1 := HX5.cell 1; have u2 := HX5.cell 2; have v0 := HX5.frozen 0; have v1 := HX5.frozen 1; have v2 := HX5.frozen 2; simp only [List.getElem?_toArray, List.getElem?_cons_zero, List.getElem?_cons_succ] at z0 z1 z2 u0 u1 u2; clear hb5 HV5 HX5 y0 y1 y2)
        refine bodyPost_ret (v := .tuple #[.agg #[.int .i64 0, .int .i64 0, .int .i64 0], .bool false]) (by simp [results, Tryd.results24, go_sem, u0, u1, u2]) rfl ⟨by rw [HRr.out], ?_⟩
        repeat (first | refine Below.setCell ?_ (by simp; try omega) _ | exact HB5.out)
    · have hk0b : (((s[0]'(by omega)).toNat : Int) == 119) = false := by
        rw [beq_eq_false_iff_ne]; intro e; exact g0 (by have h9 : (s[0]'(by omega)).toNat = 119 := by omega
                                                        exact UInt8.toNat_inj.1 h9)
      have HGd := hide (fun (n : Int) (ev : Value) (ha : AtoiV (s.data.toList.drop 3) n ev) => show readOpL s.data.toList = if (opB ⟨1, x, n⟩).data.toList = s.data.toList then some ⟨1, x, n⟩ else none by
        have h9 := readOpL_via hll ha
        rw [hx0, hx1, hx9, if_neg g0] at h9
        exact h9)
      have HAt := hide (fun W (hE : ErrOk W) => show Calls Tryd.prog 44 #[.string (s.extract 3 s.size)] W fun e w' => ∃ n ev, e = .returned (.tuple #[.int .i64 n, ev]) ∧ AtoiV (s.data.toList.drop 3) n ev ∧ Below W.heap.size W w' from by
        have h := atoi_any (s.extract 3 s.size) W hE (by rw [ByteArray.size_extract]; omega)
        rw [Lib.extract_data, List.take_of_length_le (by rw [List.length_drop, ← HSz.out]; omega)] at h
        exact h)
      have HSl := hide (ByteArray.toList_eq s)
      clear g0 hx hll hx0 hx1 hlt9
      go_enter Tryd.func24, Tryd.ntmps24
      go_upto_region 1 with fail
      generalize w.alloc _ = w1 at HB0 HX0 hz0 ⊢
      go_upto_region 6 with fail
      have HV2 := hide (Blk.new w1 41 #[.int .i64 1, .int .i64 x, .int .i64 0])
      have HX2 := hide (HX0.out.alloc (.cells #[.int .i64 1, .int .i64 x, .int .i64 0] 41))
      have HB2 := hide (HB0.out.alloc HB0.out.size (.cells #[.int .i64 1, .int .i64 x, .int .i64 0] 41))
      clear HB0 HX0 hwr hwr0 hx9
      generalize w1.alloc _ = w2 at HV2 HX2 HB2 ⊢
      have hp : w.heap.size < w1.heap.size := hz0
      generalize hpe : w1.heap.size = p at HV2 hp ⊢
      clear hpe hz0
      have c2 := HV2.out.cell 2; have d2 := HV2.out.frozen 2
      simp only [List.getElem?_toArray, List.getElem?_cons_zero, List.getElem?_cons_succ] at c2
      go_upto_region 7 with (go_at_call 44; refine (HAt.out _ (HE.out.below HB2.out)).mono ?_; rintro e w3 ⟨n, ev, rfl, hav, hb3⟩; have HR := hide (HGd.out n ev hav); have HV3 := hide (HV2.out.below hb3 HV2.out.lt); have HX3 := hide (HX2.out.below hb3 HX2.out.lt); have HB3 := hide (HB2.out.trans (hb3.mono HB2.out.size)); have e2 := HV3.out.cell 2; have f2 := HV3.out.frozen 2; simp only [List.getElem?_toArray, List.getElem?_cons_zero, List.getElem?_cons_succ] at e2; clear hb3 hav c2 d2)
      have HV4 := hide (show Blk (w3.setCell ⟨p, 2, none⟩ (.int .i64 n)) p 41 #[.int .i64 1, .int .i64 x, .int .i64 n] from HV3.out.set_ 2 _)
      have HX4 := hide (HX3.out.far (p := ⟨p, 2, none⟩) (by simp only; omega) (.int .i64 n))
      have HB4 := hide (HB3.out.setCell (p := ⟨p, 2, none⟩) (by simp only; omega) (.int .i64 n))
      clear e2 f2 HV3 HX3 HB3
      generalize w3.setCell _ _ = w4 at HV4 HX4 HB4 ⊢
      have HOt := opText_any ⟨1, x, n⟩
      obtain ⟨T, hT⟩ : ∃ T : ByteArray, T = opText ⟨1, x, n⟩ := ⟨_, rfl⟩
      rw [← opText_eq, ← hT] at HR
      rw [← hT] at HOt
      have HTl := hide (ByteArray.toList_eq T)
      have HOt := hide HOt
      clear hT
      have y0 := HV4.out.cell 0; have y1 := HV4.out.cell 1; have y2 := HV4.out.cell 2
      simp only [List.getElem?_toArray, List.getElem?_cons_zero, List.getElem?_cons_succ] at y0 y1 y2
      by_cases hd : T.data.toList = s.data.toList
      · have hb1 : (T.toList == s.toList) = true := by rw [beq_iff_eq, HTl.out, HSl.out, hd]
        have hb2 : T.toList = s.toList := by rw [HTl.out, HSl.out, hd]
        have hb3 : (T.toList != s.toList) = false := by rw [bne_eq_false_iff_eq, hb2]
        have HRr := hide (show readOV s.data.toList = .tuple #[.agg #[.int .i64 1, .int .i64 x, .int .i64 n], .bool true] from readOV_some (o := ⟨1, x, n⟩) (by rw [HR.out, if_pos hd]))
        clear hd
        go_wp2_with (go_at_call 33; refine (HOt.out _).mono ?_; rintro e w5 ⟨rfl, hb5⟩; have HB5 := hide (HB4.out.trans (hb5.mono HB4.out.size)); have HV5 := HV4.out.below hb5 HV4.out.lt; have HX5 := HX4.out.below hb5 HX4.out.lt; have z0 := HV5.cell 0; have z1 := HV5.cell 1; have z2 := HV5.cell 2; have u0 := HX5.cell 0; have u1 := HX5.cell 1; have u2 := HX5.cell 2; have v0 := HX5.frozen 0; have v1 := HX5.frozen 1; have v2 := HX5.frozen 2; simp only [List.getElem?_toArray, List.getElem?_cons_zero, List.getElem?_cons_succ] at z0 z1 z2 u0 u1 u2; clear hb5 HV5 HX5 y0 y1 y2)
        refine bodyPost_ret (v := .tuple #[.agg #[.int .i64 1, .int .i64 x, .int .i64 n], .bool true]) (by simp [results, Tryd.results24, go_sem, u0, u1, u2]) rfl ⟨by rw [HRr.out], ?_⟩
        repeat (first | refine Below.setCell ?_ (by simp; try omega) _ | exact HB5.out)
      · have hb1 : (T.toList == s.toList) = false := by rw [beq_eq_false_iff_ne, HTl.out, HSl.out]; exact hd
        have hb2 : ¬ T.toList = s.toList := by rw [HTl.out, HSl.out]; exact hd
        have hb3 : (T.toList != s.toList) = true := by rw [bne_iff_ne]; exact hb2
        have HRr := hide (show readOV s.data.toList = .tuple #[.agg #[.int .i64 0, .int .i64 0, .int .i64 0], .bool false] from readOV_none (by rw [HR.out, if_neg hd]))
        clear hd
        go_wp2_with (go_at_call 33; refine (HOt.out _).mono ?_; rintro e w5 ⟨rfl, hb5⟩; have HB5 := hide (HB4.out.trans (hb5.mono HB4.out.size)); have HV5 := HV4.out.below hb5 HV4.out.lt; have HX5 := HX4.out.below hb5 HX4.out.lt; have z0 := HV5.cell 0; have z1 := HV5.cell 1; have z2 := HV5.cell 2; have u0 := HX5.cell 0; have u1 := HX5.cell 1; have u2 := HX5.cell 2; have v0 := HX5.frozen 0; have v1 := HX5.frozen 1; have v2 := HX5.frozen 2; simp only [List.getElem?_toArray, List.getElem?_cons_zero, List.getElem?_cons_succ] at z0 z1 z2 u0 u1 u2; clear hb5 HV5 HX5 y0 y1 y2)
        refine bodyPost_ret (v := .tuple #[.agg #[.int .i64 0, .int .i64 0, .int .i64 0], .bool false]) (by simp [results, Tryd.results24, go_sem, u0, u1, u2]) rfl ⟨by rw [HRr.out], ?_⟩
        repeat (first | refine Below.setCell ?_ (by simp; try omega) _ | exact HB5.out)
  · have h4s : (s.size : Int) < 4 := by omega
    have HRr := hide (show readOV s.data.toList = .tuple #[.agg #[.int .i64 0, .int .i64 0, .int .i64 0], .bool false] from readOV_none (readOpL_short (by rw [← HSz.out]; omega)))
    go_enter Tryd.func24, Tryd.ntmps24
    go_upto_region 1 with fail
    generalize w.alloc _ = w1 at HB0 HX0 hz0 ⊢
    have u0 := HX0.out.cell 0; have u1 := HX0.out.cell 1; have u2 := HX0.out.cell 2; have v0 := HX0.out.frozen 0; have v1 := HX0.out.frozen 1; have v2 := HX0.out.frozen 2
    simp only [List.getElem?_toArray, List.getElem?_cons_zero, List.getElem?_cons_succ] at u0 u1 u2
    go_wp2_with fail
    refine bodyPost_ret (v := .tuple #[.agg #[.int .i64 0, .int .i64 0, .int .i64 0], .bool false]) (by simp [results, Tryd.results24, go_sem, u0, u1, u2]) rfl ⟨by rw [HRr.out], ?_⟩
    repeat (first | refine Below.setCell ?_ (by simp; try omega) _ | exact HB0.out)
end Go.Proofs.YtjnghnkilnhacaaDoor
namespace Go.Proofs.YtjnghnkilnhacaaDoor
open Go.RowKit
set_option linter.unusedVariables false
set_option linter.unusedSimpArgs false

/-- The last word grows by a byte. -/
def addLast (x : UInt8) : List Bs → List Bs
  | [] => [[x]]
  | [w] => [w ++ [x]]
  | w :: v :: ws => w :: addLast x (v :: ws)
theorem addLast_cons (x : UInt8) (w : Bs) {ws : List Bs} (h : ws ≠ []) : addLast x (w :: ws) = w :: addLast x ws := by
  cases ws with
  | nil => exact absurd rfl h
  | cons v ws => rfl
theorem addLast_set (x : UInt8) : ∀ (ws : List Bs), ws ≠ [] → addLast x ws = ws.set (ws.length - 1) (ws.getD (ws.length - 1) [] ++ [x])
  | [], h => absurd rfl h
  | [w], _ => rfl
  | w :: v :: ws, _ => by
    rw [addLast, addLast_set x (v :: ws) (by simp)]
    simp
theorem putHead_add (x y : UInt8) {ws : List Bs} (h : ws ≠ []) : putHead y (addLast x ws) = addLast x (putHead y ws) := by
  match ws, h with
  | [w], _ => rfl
  | w :: v :: ws, _ => rfl
theorem wordsL_snoc {x : UInt8} (hx : x ≠ 32) : ∀ l : Bs, wordsL (l ++ [x]) = addLast x (wordsL l)
  | [] => by
    show wordsL [x] = [[x]]
    simp [wordsL, hx, putHead]
  | y :: l => by
    rw [List.cons_append, wordsL, wordsL_snoc hx l]
    conv => rhs; rw [wordsL]
    split
    · rw [addLast_cons _ _ (wordsL_ne l)]
    · rw [putHead_add _ _ (wordsL_ne l)]
theorem putHead_app (y : UInt8) {ws : List Bs} (h : ws ≠ []) (v : Bs) : putHead y (ws ++ [v]) = putHead y ws ++ [v] := by
  match ws, h with
  | w :: ws, _ => rfl
theorem wordsL_snoc_sp : ∀ l : Bs, wordsL (l ++ [32]) = wordsL l ++ [[]]
  | [] => by
    show wordsL [32] = [[], []]
    simp [wordsL]
  | y :: l => by
    rw [List.cons_append, wordsL, wordsL_snoc_sp l]
    conv => rhs; rw [wordsL]
    split
    · rfl
    · rw [putHead_app _ (wordsL_ne l)]
theorem wordsL_len : ∀ l : Bs, (wordsL l).length ≤ l.length + 1
  | [] => by simp [wordsL]
  | y :: l => by
    have ih := wordsL_len l
    unfold wordsL
    split
    · simp only [List.length_cons]; omega
    · cases h : wordsL l with
      | nil => exact absurd h (wordsL_ne l)
      | cons w ws => rw [h] at ih; simp only [putHead, List.length_cons] at ih ⊢; omega
theorem wordsL_le : ∀ l : Bs, ∀ v ∈ wordsL l, v.length ≤ l.length
  | [], v, hv => by obtain rfl : v = [] := by simpa [wordsL] using hv
                    simp
  | y :: l, v, hv => by
    have ih := wordsL_le l
    unfold wordsL at hv
    split at hv
    · rcases List.mem_cons.1 hv with rfl | hv
      · simp
      · have := ih v hv; simp only [List.length_cons]; omega
    · cases h : wordsL l with
      | nil => exact absurd h (wordsL_ne l)
      | cons w ws =>
        rw [h] at hv ih
        simp only [putHead] at hv
        rcases List.mem_cons.1 hv with rfl | hv
        · have := ih w List.mem_cons_self; simp only [List.length_cons]; omega
        · have := ih v (List.mem_cons_of_mem _ hv); simp only [List.length_cons]; omega
theorem Own.cellStr {e : TypeId} {w : World} {S : Nat → Prop} {xs : List ByteArray} {g c n : Nat} (h : Own tStr e w S xs (.slice (some ⟨g, 0, none⟩) n c)) {k : Nat} (hk : k < xs.length) : w.cell? ⟨g, k, none⟩ = some (.string xs[k]) ∧ w.frozen? ⟨g, k, none⟩ = false := by
  obtain ⟨cs, hr, hc, hf⟩ := h.el hk
  have h1 : cs = [.string xs[k]] := hr
  subst h1
  have := hc 0 _ rfl
  rw [show k * tStr.size + 0 = k from Nat.mul_one k] at this
  exact ⟨this, hf k⟩
theorem Own.setStr {e : TypeId} {w : World} {K : Nat → Prop} {xs : List ByteArray} {g c n : Nat} (h : Own tStr e w (fun b => K b ∧ Old w b) xs (.slice (some ⟨g, 0, none⟩) n c)) {k : Nat} (hk : k < xs.length) (y : ByteArray) : Own tStr e (w.setCell ⟨g, k, none⟩ (.string y)) (fun b => K b ∧ Old (w.setCell ⟨g, k, none⟩ (.string y)) b) (xs.set k y) (.slice (some ⟨g, 0, none⟩) n c) := by
  have := h.setEl hk (x := y) (cs := [.string y]) rfl
  rw [show k * tStr.size = k from Nat.mul_one k] at this
  exact this.mono (fun b hb => ⟨hb.1, by have := hb.2; unfold Old at this ⊢; simpa [World.setCell] using this⟩) (fun _ _ => rfl)
theorem addLast_data {xs : List ByteArray} {ws : List Bs} {i : Nat} {s : ByteArray} (hne : ws ≠ []) (hx : xs.map (·.data.toList) = ws) (hn : xs.length - 1 < xs.length) (hi : i < s.size) :
    (xs.set (xs.length - 1) (xs[xs.length - 1] ++ s.extract i (i + 1))).map (·.data.toList) = addLast s[i] ws := by
  rw [addLast_set _ _ hne, ← hx, List.map_set, List.length_map]
  congr 1
  rw [data_app, Lib.extract_data]
  congr 1
  · rw [List.getD_eq_getElem?_getD, List.getElem?_map, List.getElem?_eq_getElem hn]; rfl
  · rw [show i + 1 - i = 1 by omega]
    have hl : i < s.data.toList.length := by rw [Array.length_toList]; exact hi
    rw [List.drop_eq_getElem_cons hl]
    rfl
set_option maxRecDepth 10000 in
set_option maxHeartbeats 4000000 in
theorem l3Words_any (s : ByteArray) (w : World) (hs : s.size ≤ 4294967295) : Calls Tryd.prog 18 #[.string s] w fun e w' => ∃ xs v, e = .returned v ∧ xs.map (·.data.toList) = wordsL s.data.toList ∧ Own tStr 9 w' (fun b => w.heap.size ≤ b ∧ Old w' b) xs v ∧ Below w.heap.size w w' := by
  obtain ⟨i0, hi, hz0, hz1, hz2⟩ := info_parts infoStr_
  have HSz := hide (show s.size = s.data.toList.length by rw [Array.length_toList]; rfl)
  have HO0 := hide (Own.one (T := tStr) (e := 9) w (S := fun _ => False) (K := fun b => w.heap.size ≤ b ∧ Old (w.alloc (.cells #[.string ⟨#[]⟩] 9)) b) (x := ⟨#[]⟩) [.string ⟨#[]⟩] rfl (fun _ h => h.elim) ⟨Nat.le_refl _, by simp [Old]⟩)
  have HB0 := hide ((Below.refl _ w).alloc (Nat.le_refl _) (.cells #[.string ⟨#[]⟩] 9))
  go_enter Tryd.func18, Tryd.ntmps18
  go_upto_region 3 with fail
  generalize w.alloc _ = w1 at HO0 HB0 ⊢
  go_loopw [3, 4] (fun v k wr => ∃ (i : Nat) (xs : List ByteArray) (u : Value), v = u ∧ k = .int .i64 i ∧ i ≤ s.size ∧ Hid (xs.map (·.data.toList) = wordsL (s.data.toList.take i)) ∧ Hid (Own tStr 9 wr (fun b => w.heap.size ≤ b ∧ Old wr b) xs u) ∧ Hid (Below w.heap.size w wr)) (fun _ k _ => s.size - (intOf k).toNat)
  case atStart => exact ⟨0, [⟨#[]⟩], _, rfl, rfl, Nat.zero_le _, rfl, HO0.out, HB0.out⟩
  case round =>
    obtain ⟨i, xs, u, rfl, rfl, hile, hL, hO, hb⟩ := hrel
    have HL := hide hL.out; have HO := hide hO.out; have HWr := hide hb.out
    clear hL hO hb HO0 HB0
    have HXl := hide (show 0 < xs.length ∧ xs.length ≤ i + 1 by
      have h := congrArg List.length HL.out
      rw [List.length_map] at h
      have h1 := wordsL_len (s.data.toList.take i)
      have h2 : 0 < (wordsL (s.data.toList.take i)).length := List.length_pos_iff.2 (wordsL_ne _)
      rw [List.length_take] at h1
      omega)
    by_cases hlt : i < s.size
    · have hki : (i : Int) < (s.size : Int) := by omega
      have hll : i < s.data.toList.length := by rw [← HSz.out]; exact hlt
      have hx : s.data.toList[i] = s[i]'hlt := by rw [Array.getElem_toList]; rfl
      have HT := hide (show s.data.toList.take (i + 1) = s.data.toList.take i ++ [s[i]'hlt] by rw [List.take_succ_eq_append_getElem hll, hx])
      have hwi : wrap64 ((i : Int) + 1) = (i : Int) + 1 := by unfold wrap64; omega
      by_cases hsp : s[i]'hlt = 32
      · have hk0 : (((s[i]'hlt).toNat : Int) == 32) = true := by rw [hsp]; rfl
        have hk1 : ((s[i]'hlt).toNat : Int) = 32 := by rw [hsp]; rfl
        have HS := hide (show (xs ++ [(⟨#[]⟩ : ByteArray)]).map (·.data.toList) = wordsL (s.data.toList.take (i + 1)) by rw [HT.out, hsp, wordsL_snoc_sp, List.map_append, HL.out]; rfl)
        clear hsp hx hll
        go_wp2_with (at_builtin; refine wpList_put tStr rfl (.tmp 16) (.tmp 17) 37 rfl 9 i0 _ 16 Tryd.underlying37 hi hz0 hz1 hz2 rfl (by decide) (fun b => w.heap.size ≤ b) (fun _ => False) xs ⟨#[]⟩ [.string ⟨#[]⟩] _ rfl HO.out _ rfl rfl (fun _ h => h.elim) (fun b hb => Nat.le_trans HWr.out.size hb) (by have := HXl.out; simp only [maxLen]; omega) (by have := HXl.out; omega) ?_; intro v6 w6 hO_ hK_; have HO6 := hide hO_; have HW6 := hide (below_only HWr.out hK_ HWr.out.size (fun i hi => hi)); clear hO_ hK_)
        go_roundw
        case rel => exact ⟨i + 1, _, _, rfl, by go_num, by omega, HS.out, HO6.out, HW6.out⟩
        case measure => simp [intOf]; omega
      · have hk1 : ¬ ((s[i]'hlt).toNat : Int) = 32 := by intro e; apply hsp; apply UInt8.toNat_inj.1; show (s[i]'hlt).toNat = 32; omega
        have hk0 : (((s[i]'hlt).toNat : Int) == 32) = false := by rw [beq_eq_false_iff_ne]; exact hk1
        obtain ⟨g, c, rfl, hgK⟩ := HO.out.form HXl.out.1
        have hgl := hgK.1
        have HGl := hide hgl
        have HG := hide hgK.2
        obtain ⟨n, hn⟩ : ∃ n, n = xs.length := ⟨_, rfl⟩
        have hn0 : 0 < n := by rw [hn]; exact HXl.out.1
        have hn9 : n ≤ i + 1 := by rw [hn]; exact HXl.out.2
        have hn1 : n - 1 < xs.length := by omega
        obtain ⟨L, hLd⟩ : ∃ L, L = xs[n - 1]'hn1 := ⟨_, rfl⟩
        have HC := hide (show wr.cell? ⟨g, n - 1, none⟩ = some (.string L) by rw [hLd]; exact (HO.out.cellStr hn1).1)
        have HLs := hide (show L.size ≤ i by
          have h1 : L.data.toList ∈ xs.map (·.data.toList) := List.mem_map.2 ⟨L, by rw [hLd]; exact List.getElem_mem hn1, rfl⟩
          rw [HL.out] at h1
          have h2 := wordsL_le _ _ h1
          rw [List.length_take] at h2
          rw [ba_size rfl]
          omega)
        have HAd := hide (fun W => run_string_add_sum (P := Tryd.prog) W L (s.extract i (i + 1)) (by have := HLs.out; rw [ByteArray.size_extract]; omega))
        have HS := hide (show (xs.set (n - 1) (L ++ s.extract i (i + 1))).map (·.data.toList) = wordsL (s.data.toList.take (i + 1)) by
          subst hn; subst hLd
          rw [HT.out, wordsL_snoc hsp]
          exact addLast_data (wordsL_ne _) HL.out hn1 hlt)
        have HN1 := hide (show IntKind.i64.wrap ((n : Int) - 1) = (n : Int) - 1 by rw [IntKind.wrap_i64]; omega)
        have HN2 := hide (show (0 : Int) ≤ (n : Int) - 1 by omega)
        have HN3 := hide (show (n : Int) - 1 < (n : Int) by omega)
        have HN4 := hide (show ((n : Int) - 1).toNat = n - 1 by omega)
        have HN5 := hide (show (1 : Int) ≤ (n : Int) by omega)
        have HI1 := hide (show IntKind.i64.wrap ((i : Int) + 1) = (i : Int) + 1 by rw [IntKind.wrap_i64]; omega)
        have HI2 := hide (show (i : Int) ≤ (i : Int) + 1 by omega)
        have HI3 := hide (show (i : Int) + 1 ≤ (s.size : Int) by omega)
        have HI4 := hide (show ((i : Int) + 1).toNat = i + 1 by omega)
        have HI5 := hide (show (0 : Int) ≤ (i : Int) by omega)
        have HO := hide (show Own tStr 9 wr (fun b => w.heap.size ≤ b ∧ Old wr b) xs (.slice (some ⟨g, 0, none⟩) n c) by rw [hn]; exact HO.out)
        rw [← hn]
        clear hsp hx hll hwi hn hLd hgK hgl
        go_upto_region 7 with fail
        clear hk0 hk1
        refine wp_region_vals 17 (fun W => Below wr.heap.size wr W) (fun q9 => match q9 with | 0 => .slice (some ⟨g, 0, none⟩) n c | 1 => .slice (some ⟨g, 0, none⟩) n c | 2 => .int .i64 (n : Int) | 3 => .int .i64 ((n : Int) - 1) | 4 => .slice (some ⟨g, 0, none⟩) n c | 5 => .slice (some ⟨g, 0, none⟩) n c | 6 => .int .i64 (n : Int) | 7 => .int .i64 ((n : Int) - 1) | 8 => .pointer (some ⟨g, n - 1, none⟩) | 9 => .string L | 10 => .string s | 11 => .int .i64 (i : Int) | 12 => .int .i64 (i : Int) | 13 => .int .i64 ((i : Int) + 1) | 14 => .string (s.extract i (i + 1)) | 15 => .string (L ++ s.extract i (i + 1)) | 16 => .pointer (some ⟨g, n - 1, none⟩) | _ => undef) [some 19, some 20, some 21, some 22, some 23, some 24, some 25, some 26, some 27, some 28, some 29, some 30, some 31, some 32, some 33, some 34, some 35] (by kernel_rfl) (by kernel_rfl) (by kernel_rfl) (by kernel_rfl) (by kernel_rfl) ?_ ?_ ?_
        · exact (Below.refl _ wr).drew
        · intro i o hi ho a wa hI hc hd K hK
          have hi' : i = 0 ∨ i = 1 ∨ i = 2 ∨ i = 3 ∨ i = 4 ∨ i = 5 ∨ i = 6 ∨ i = 7 ∨ i = 8 ∨ i = 9 ∨ i = 10 ∨ i = 11 ∨ i = 12 ∨ i = 13 ∨ i = 14 ∨ i = 15 ∨ i = 16 := by omega
          clear hi
          rcases hi' with rfl | rfl | rfl | rfl | rfl | rfl | rfl | rfl | rfl | rfl | rfl | rfl | rfl | rfl | rfl | rfl | rfl
          all_goals
            simp only [List.getElem?_toArray, List.getElem?_cons_zero, List.getElem?_cons_succ, Option.some.injEq] at ho
            subst ho
          · have e3 := (hc 3 (by kernel_rfl)).trans rfl
            go_simp
            exact hK _ hI
          · have e3 := (hc 3 (by kernel_rfl)).trans rfl
            go_simp
            exact hK _ hI
          · have e20 : a.tmps.getD 20 undef = .slice (some ⟨g, 0, none⟩) n c := hd 1 20 (by kernel_rfl)
            go_simp
            exact hK _ hI
          · have e21 : a.tmps.getD 21 undef = .int .i64 (n : Int) := hd 2 21 (by kernel_rfl)
            have q1 := HN1.out; have q2 := HN2.out; have q3 := HN3.out; have q4 := HN4.out; have q5 := HN5.out
            go_simp
            exact hK _ hI
          · have e3 := (hc 3 (by kernel_rfl)).trans rfl
            go_simp
            exact hK _ hI
          · have e3 := (hc 3 (by kernel_rfl)).trans rfl
            go_simp
            exact hK _ hI
          · have e24 : a.tmps.getD 24 undef = .slice (some ⟨g, 0, none⟩) n c := hd 5 24 (by kernel_rfl)
            go_simp
            exact hK _ hI
          · have e25 : a.tmps.getD 25 undef = .int .i64 (n : Int) := hd 6 25 (by kernel_rfl)
            have q1 := HN1.out; have q2 := HN2.out; have q3 := HN3.out; have q4 := HN4.out; have q5 := HN5.out
            go_simp
            exact hK _ hI
          · have e23 : a.tmps.getD 23 undef = .slice (some ⟨g, 0, none⟩) n c := hd 4 23 (by kernel_rfl)
            have e26 : a.tmps.getD 26 undef = .int .i64 ((n : Int) - 1) := hd 7 26 (by kernel_rfl)
            have q1 := HN1.out; have q2 := HN2.out; have q3 := HN3.out; have q4 := HN4.out; have q5 := HN5.out
            go_simp
            exact hK _ hI
          · have e27 : a.tmps.getD 27 undef = .pointer (some ⟨g, n - 1, none⟩) := hd 8 27 (by kernel_rfl)
            have c0 := (hI.cell (show (⟨g, n - 1, none⟩ : Addr).block < wr.heap.size from HG.out)).trans HC.out
            go_simp
            exact hK _ hI
          · have e0 := (hc 0 (by kernel_rfl)).trans rfl
            go_simp
            exact hK _ hI
          · have e4 := (hc 4 (by kernel_rfl)).trans rfl
            go_simp
            exact hK _ hI
          · have e4 := (hc 4 (by kernel_rfl)).trans rfl
            go_simp
            exact hK _ hI
          · have e31 : a.tmps.getD 31 undef = .int .i64 (i : Int) := hd 12 31 (by kernel_rfl)
            have q1 := HI1.out; have q2 := HI2.out; have q3 := HI3.out
            go_simp
            exact hK _ hI
          · have e29 : a.tmps.getD 29 undef = .string s := hd 10 29 (by kernel_rfl)
            have e30 : a.tmps.getD 30 undef = .int .i64 (i : Int) := hd 11 30 (by kernel_rfl)
            have e32 : a.tmps.getD 32 undef = .int .i64 ((i : Int) + 1) := hd 13 32 (by kernel_rfl)
            have q1 := HI1.out; have q2 := HI2.out; have q3 := HI3.out; have q4 := HI4.out; have q5 := HI5.out
            go_simp
            exact hK _ hI
          · have e28 : a.tmps.getD 28 undef = .string L := hd 9 28 (by kernel_rfl)
            have e33 : a.tmps.getD 33 undef = .string (s.extract i (i + 1)) := hd 14 33 (by kernel_rfl)
            have q1 := HAd.out wa
            go_simp
            exact hK _ hI
          · have e19 : a.tmps.getD 19 undef = .slice (some ⟨g, 0, none⟩) n c := hd 0 19 (by kernel_rfl)
            have e22 : a.tmps.getD 22 undef = .int .i64 ((n : Int) - 1) := hd 3 22 (by kernel_rfl)
            have q1 := HN1.out; have q2 := HN2.out; have q3 := HN3.out; have q4 := HN4.out; have q5 := HN5.out
            go_simp
            exact hK _ hI
        · intro wz hI
          simp only [putD, Act.put, List.setIfInBounds_toArray, List.set_cons_zero, List.set_cons_succ, List.drop_succ_cons, List.drop_zero]
          have HOz := hide (HO.out.onlyBelow hI)
          have HWz := hide (HWr.out.trans (hI.mono HWr.out.size))
          have d0 := (HOz.out.cellStr hn1).2
          have d1 := (HOz.out.cellStr hn1).1
          have HO5 := hide (HOz.out.setStr hn1 (L ++ s.extract i (i + 1)))
          have HW5 := hide (HWz.out.setCell (p := ⟨g, n - 1, none⟩) HGl.out (.string (L ++ s.extract i (i + 1))))
          clear hI
          go_wp2_with fail
          go_roundw
          case rel => exact ⟨i + 1, _, _, rfl, by go_num, by omega, HS.out, HO5.out, HW5.out⟩
          case measure => simp [intOf]; omega
    · obtain rfl : i = s.size := by omega
      have HLa := hide (show xs.map (·.data.toList) = wordsL s.data.toList by have h := HL.out; rw [HSz.out, List.take_length] at h; exact h)
      go_wp2_with fail
      go_ret
      exact ⟨xs, _, rfl, HLa.out, HO.out, HWr.out⟩
end Go.Proofs.YtjnghnkilnhacaaDoor
namespace Go.Proofs.YtjnghnkilnhacaaDoor
open Go.RowKit
set_option linter.unusedVariables false
set_option linter.unusedSimpArgs false

theorem infoOpT : (Tryd.prog.info? 41).map (fun i => (i.zero, i.size, i.bytes)) = some (some (.agg #[.int .i64 0, .int .i64 0, .int .i64 0]), 3, 24) := by kernel_rfl
end Go.Proofs.YtjnghnkilnhacaaDoor
