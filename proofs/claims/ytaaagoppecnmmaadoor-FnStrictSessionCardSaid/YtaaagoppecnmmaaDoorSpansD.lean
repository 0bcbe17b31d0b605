/- l20Spans and what draws spans: some list of spans, in memory of the call's own. -/
import Derived.Test.YtaaagoppecnmmaaDoorHBox
namespace Go.Proofs.YtaaagoppecnmmaaDoor
open Go.RowKit
set_option linter.unusedVariables false

theorem infoSpanD : (Tryd.prog.info? 44).map (fun i => (i.zero, i.size, i.bytes)) = some (some (.agg #[.int .i64 0, .int .i64 0]), 2, 16) := by kernel_rfl
set_option maxRecDepth 10000 in
set_option maxHeartbeats 4000000 in
theorem spans_any (w : World) (R P : Nat) (m : Nat) (n : Int) (h : Rd w R P) (hP : P ≤ 1000) (hm : m ≤ 10) (hn : n ≤ 1000000) :
    Calls Tryd.prog 63 #[.pointer (some ⟨R, 0, none⟩), .int .i64 m, .int .i64 n] w (Drawn tSpan 44 w R (P + 40) 10) := by
  obtain ⟨i0, hi, hz0, hz1, hz2⟩ := info_parts infoSpanD
  have HR1 := hide (h.alloc (.cells #[] 44))
  have HlR := hide h.lt
  have HP := hide hP
  have HG1 := hide (gr_alloc (gr_refl w R) (.cells #[] 44))
  have HO1 := hide (Own.empty (T := tSpan) (e := 44) w (fun b => w.heap.size ≤ b) (Nat.le_refl _))
  clear h hP
  go_enter Tryd.func63, Tryd.ntmps63
  go_wp2_with fail
  go_loopw [7, 8, 9] (fun v at_ i wr => ∃ (k : Nat) (xs : List Span) (a : Int), k ≤ m ∧ i = .int .i64 k ∧ at_ = .int .i64 a ∧ 0 ≤ a ∧ a ≤ 6 * k ∧ Hid (xs.length ≤ k) ∧ Hid (Own tSpan 44 wr (fun b => w.heap.size ≤ b ∧ Old wr b) xs v) ∧ Hid (Rd wr R (P + 4 * k)) ∧ Hid (Gr w wr R)) (fun _ _ i _ => m - (intOf i).toNat)
  case atStart => exact ⟨0, [], 0, Nat.zero_le _, rfl, rfl, by omega, by omega, by simp [Hid], HO1.out, HR1.out.up (by omega), HG1.out⟩
  case round =>
    obtain ⟨k, xs, a, hk, rfl, rfl, ha0, ha1, hxl, hO, hR, hG⟩ := hrel
    clear HO1 HR1 HG1
    by_cases hlt : (k : Int) < (m : Int)
    · go_wp2_with fail
      refine (pick_any wr R (P + 4 * k) 9 hR.out (by have := HP.out; omega)).mono ?_
      rintro e w1 ⟨v1, rfl, hv0, hv1, hr1, hg1⟩
      have HR1 := hide hr1
      have HG1 := hide (gr_trans hG.out hg1)
      have HO1 := hide (Own.onlyGr hO.out hg1 (by have := HlR.out; omega))
      have hv9 := hv1 (by decide)
      clear hr1 hg1 hv1 hO hR hG
      go_wp2_with fail
      · refine (pick_any w1 R (P + 4 * k + 1) 12 HR1.out (by have := HP.out; omega)).mono ?_
        rintro e w2 ⟨v2, rfl, hv20, hv21, hr2, hg2⟩
        have hv12 := hv21 (by decide)
        have HR2 := hide (hr2.alloc (.cells #[.int .i64 (a - v1), .int .i64 ((a - v1) + v2)] 44))
        have HG2 := hide (gr_alloc (gr_trans HG1.out hg2) (.cells #[.int .i64 (a - v1), .int .i64 ((a - v1) + v2)] 44))
        have HO2 := hide ((Own.onlyGr HO1.out hg2 (by have := HlR.out; omega)).mono (w' := w2.alloc (.cells #[.int .i64 (a - v1), .int .i64 ((a - v1) + v2)] 44)) (S2 := In w.heap.size w2.heap.size) (fun _ h => h) (fun b hb => Below.heap_alloc _ _ _ hb.2))
        have HB2 := hide (show R < w2.heap.size from hr2.lt)
        have HS2 := hide (gr_trans HG1.out hg2).size
        clear hr2 hg2 hv21
        obtain ⟨t, ht⟩ : ∃ t, t = (a - v1) + v2 := ⟨_, rfl⟩
        go_wp2_with fail
        refine (odd_any _ R (P + 4 * k + 2) n HR2.out (by have := HP.out; omega) hn).mono ?_
        rintro e w3 ⟨o, rfl, hr3, hg3⟩
        have HR3 := hide hr3
        have HG3 := hide (gr_trans HG2.out hg3)
        have HO3 := hide (HO2.out.mono (S2 := In w.heap.size w2.heap.size) (fun _ h => h) (fun b hb => hg3.block b (by have := hb.2; simp; omega) (by have := hb.1; have := HlR.out; intro e; injection e; omega)))
        have HBk3 := hide (show Blk w3 w2.heap.size 44 #[.int .i64 (a - v1), .int .i64 ((a - v1) + v2)] from (Blk.new w2 _ _).of (hg3.block _ (by simp) (by have := HB2.out; intro e; injection e; omega)))
        clear hr3 hg3
        cases o with
        | false =>
          have HR5 := HR3; have HG5 := HG3; have HBk5 := HBk3
          have HO5 := hide (HO3.out.mono (S2 := fun b => w.heap.size ≤ b ∧ Old w3 b) (fun b hb => ⟨hb.1, Nat.lt_trans hb.2 HBk5.out.lt⟩) (fun _ _ => rfl))
          clear HR3 HG3 HO3 HBk3
          have c0 := HBk5.out.cell 0
          have c1 := HBk5.out.cell 1
          simp only [List.getElem?_toArray, List.getElem?_cons_zero, List.getElem?_cons_succ] at c0 c1
          go_wp2_with (at_builtin; refine wpList_put tSpan rfl (.tmp 40) (.tmp 42) 35 rfl 44 i0 _ 16 Tryd.underlying35 hi hz0 hz1 hz2 rfl (by decide) (fun b => w.heap.size ≤ b) (fun _ => False) xs ⟨(a - v1), ((a - v1) + v2)⟩ _ _ rfl HO5.out _ rfl rfl (fun _ h => h.elim) (fun b hb => Nat.le_trans HG5.out.size hb) (by have := hxl.out; simp only [maxLen]; omega) (by have := hxl.out; omega) ?_; intro v6 w6 hO_ hK_; have HO6 := hide hO_; have HR6 := hide (HR5.out.only hK_ (fun b hb => by have := HlR.out; omega)); have HG6 := hide (gr_only HG5.out hK_ (fun _ h => h)); clear hO_ hK_)
          go_roundw
          case rel => exact ⟨k + 1, xs ++ [(⟨(a - v1), ((a - v1) + v2)⟩ : Span)], a + 6, by omega, by go_num, rfl, by omega, by omega, by show _ ≤ _; have := hxl.out; simp; omega, HO6.out, HR6.out.up (by omega), HG6.out⟩
          case measure => simp [intOf]; omega
        | true =>
          have HR3a := hide (HR3.out.alloc (.cells #[.int .i64 2, .int .i64 1, .int .i64 (-1), .int .i64 0, .int .i64 0, .int .i64 1001] 44))
          have HG3a := hide (gr_alloc HG3.out (.cells #[.int .i64 2, .int .i64 1, .int .i64 (-1), .int .i64 0, .int .i64 0, .int .i64 1001] 44))
          have HO3a := hide (HO3.out.mono (w' := w3.alloc (.cells #[.int .i64 2, .int .i64 1, .int .i64 (-1), .int .i64 0, .int .i64 0, .int .i64 1001] 44)) (S2 := In w.heap.size w2.heap.size) (fun _ h => h) (fun b hb => Below.heap_alloc _ _ _ (Nat.lt_trans hb.2 HBk3.out.lt)))
          have HBk3a := hide (HBk3.out.alloc (.cells #[.int .i64 2, .int .i64 1, .int .i64 (-1), .int .i64 0, .int .i64 0, .int .i64 1001] 44))
          have HS3 := hide HG3.out.size
          have HBL := hide HBk3.out.lt
          go_wp2_with fail
          refine (pick_any _ R (P + 4 * k + 3) 3 HR3a.out (by have := HP.out; omega)).mono ?_
          rintro e w4 ⟨y, rfl, hy0, hy1, hr4, hg4⟩
          have HR4 := hide hr4
          have HG4 := hide (gr_trans HG3a.out hg4)
          have HO4 := hide (HO3a.out.mono (S2 := In w.heap.size w2.heap.size) (fun _ h => h) (fun b hb => hg4.block b (by have := hb.2; have := HBL.out; simp; omega) (by have := hb.1; have := HlR.out; intro e; injection e; omega)))
          have hBk4 := HBk3a.out.of (hg4.block _ (by have := HBL.out; simp; omega) (by have := HB2.out; intro e; injection e; omega))
          have hBL := (Blk.new w3 44 #[.int .i64 2, .int .i64 1, .int .i64 (-1), .int .i64 0, .int .i64 0, .int .i64 1001]).of (hg4.block _ (by simp) (by have := HR3.out.lt; intro e; injection e; omega))
          have hy3 : y = 0 ∨ y = 1 ∨ y = 2 := by have := hy1 (by decide); omega
          have HBk4 := hide hBk4
          have HBl := hide hBL
          clear hr4 hg4 hy0 hy1 HR3a HO3a HG3a HBk3a hBk4 hBL
          rcases hy3 with rfl | rfl | rfl
          · have d0 := HBl.out.cell 0
            have d1 := HBl.out.cell 1
            have e0 := HBk4.out.cell 0
            have e1 := HBk4.out.cell 1
            have g0 := HBk4.out.frozen 0
            have g1 := HBk4.out.frozen 1
            simp only [List.getElem?_toArray, List.getElem?_cons_zero, List.getElem?_cons_succ] at d0 d1 e0 e1
            go_upto_region 10 with (fail)
            have HBk5 := hide ((HBk4.out.set_ 0 (.int .i64 2)).set_ 1 (.int .i64 1))
            have HR5 := hide ((HR4.out.far (p := ⟨w2.heap.size, 0, none⟩) HB2.out (.int .i64 2)).far (p := ⟨w2.heap.size, 1, none⟩) HB2.out (.int .i64 1))
            have HG5 := hide (gr_setCell (gr_setCell HG4.out (p := ⟨w2.heap.size, 0, none⟩) (.inr HS2.out) (.int .i64 2)) (p := ⟨w2.heap.size, 1, none⟩) (.inr HS2.out) (.int .i64 1))
            have HO5 := hide (HO4.out.mono (w' := (w4.setCell ⟨w2.heap.size, 0, none⟩ (.int .i64 2)).setCell ⟨w2.heap.size, 1, none⟩ (.int .i64 1)) (S2 := fun b => w.heap.size ≤ b ∧ Old ((w4.setCell ⟨w2.heap.size, 0, none⟩ (.int .i64 2)).setCell ⟨w2.heap.size, 1, none⟩ (.int .i64 1)) b) (fun b hb => ⟨hb.1, Nat.lt_trans hb.2 HBk5.out.lt⟩) (fun b hb => by
              have := hb.2
              rw [Below.heap_setCell _ _ _ b (by show b ≠ w2.heap.size; omega), Below.heap_setCell _ _ _ b (by show b ≠ w2.heap.size; omega)]))
            generalize (w4.setCell ⟨w2.heap.size, 0, none⟩ (.int .i64 2)).setCell ⟨w2.heap.size, 1, none⟩ (.int .i64 1) = W5 at HBk5 HR5 HG5 HO5 ⊢
            clear d0 d1 e0 e1 g0 g1 HBk4 HBl HR4 HG4 HO4
            simp only [List.setIfInBounds_toArray, List.set_cons_succ, List.set_cons_zero] at HBk5
            have c0 := HBk5.out.cell 0
            have c1 := HBk5.out.cell 1
            simp only [List.getElem?_toArray, List.getElem?_cons_zero, List.getElem?_cons_succ] at c0 c1
            go_wp2_with (at_builtin; refine wpList_put tSpan rfl (.tmp 40) (.tmp 42) 35 rfl 44 i0 _ 16 Tryd.underlying35 hi hz0 hz1 hz2 rfl (by decide) (fun b => w.heap.size ≤ b) (fun _ => False) xs ⟨2, 1⟩ _ _ rfl HO5.out _ rfl rfl (fun _ h => h.elim) (fun b hb => Nat.le_trans HG5.out.size hb) (by have := hxl.out; simp only [maxLen]; omega) (by have := hxl.out; omega) ?_; intro v6 w6 hO_ hK_; have HO6 := hide hO_; have HR6 := hide (HR5.out.only hK_ (fun b hb => by have := HlR.out; omega)); have HG6 := hide (gr_only HG5.out hK_ (fun _ h => h)); clear hO_ hK_)
            go_roundw
            case rel => exact ⟨k + 1, xs ++ [(⟨2, 1⟩ : Span)], a + 6, by omega, by go_num, rfl, by omega, by omega, by show _ ≤ _; have := hxl.out; simp; omega, HO6.out, HR6.out.up (by omega), HG6.out⟩
            case measure => simp [intOf]; omega
          · have d0 := HBl.out.cell 2
            have d1 := HBl.out.cell 3
            have e0 := HBk4.out.cell 0
            have e1 := HBk4.out.cell 1
            have g0 := HBk4.out.frozen 0
            have g1 := HBk4.out.frozen 1
            simp only [List.getElem?_toArray, List.getElem?_cons_zero, List.getElem?_cons_succ] at d0 d1 e0 e1
            go_upto_region 10 with (fail)
            have HBk5 := hide ((HBk4.out.set_ 0 (.int .i64 (-1))).set_ 1 (.int .i64 0))
            have HR5 := hide ((HR4.out.far (p := ⟨w2.heap.size, 0, none⟩) HB2.out (.int .i64 (-1))).far (p := ⟨w2.heap.size, 1, none⟩) HB2.out (.int .i64 0))
            have HG5 := hide (gr_setCell (gr_setCell HG4.out (p := ⟨w2.heap.size, 0, none⟩) (.inr HS2.out) (.int .i64 (-1))) (p := ⟨w2.heap.size, 1, none⟩) (.inr HS2.out) (.int .i64 0))
            have HO5 := hide (HO4.out.mono (w' := (w4.setCell ⟨w2.heap.size, 0, none⟩ (.int .i64 (-1))).setCell ⟨w2.heap.size, 1, none⟩ (.int .i64 0)) (S2 := fun b => w.heap.size ≤ b ∧ Old ((w4.setCell ⟨w2.heap.size, 0, none⟩ (.int .i64 (-1))).setCell ⟨w2.heap.size, 1, none⟩ (.int .i64 0)) b) (fun b hb => ⟨hb.1, Nat.lt_trans hb.2 HBk5.out.lt⟩) (fun b hb => by
              have := hb.2
              rw [Below.heap_setCell _ _ _ b (by show b ≠ w2.heap.size; omega), Below.heap_setCell _ _ _ b (by show b ≠ w2.heap.size; omega)]))
            generalize (w4.setCell ⟨w2.heap.size, 0, none⟩ (.int .i64 (-1))).setCell ⟨w2.heap.size, 1, none⟩ (.int .i64 0) = W5 at HBk5 HR5 HG5 HO5 ⊢
            clear d0 d1 e0 e1 g0 g1 HBk4 HBl HR4 HG4 HO4
            simp only [List.setIfInBounds_toArray, List.set_cons_succ, List.set_cons_zero] at HBk5
            have c0 := HBk5.out.cell 0
            have c1 := HBk5.out.cell 1
            simp only [List.getElem?_toArray, List.getElem?_cons_zero, List.getElem?_cons_succ] at c0 c1
            go_wp2_with (at_builtin; refine wpList_put tSpan rfl (.tmp 40) (.tmp 42) 35 rfl 44 i0 _ 16 Tryd.underlying35 hi hz0 hz1 hz2 rfl (by decide) (fun b => w.heap.size ≤ b) (fun _ => False) xs ⟨(-1), 0⟩ _ _ rfl HO5.out _ rfl rfl (fun _ h => h.elim) (fun b hb => Nat.le_trans HG5.out.size hb) (by have := hxl.out; simp only [maxLen]; omega) (by have := hxl.out; omega) ?_; intro v6 w6 hO_ hK_; have HO6 := hide hO_; have HR6 := hide (HR5.out.only hK_ (fun b hb => by have := HlR.out; omega)); have HG6 := hide (gr_only HG5.out hK_ (fun _ h => h)); clear hO_ hK_)
            go_roundw
            case rel => exact ⟨k + 1, xs ++ [(⟨(-1), 0⟩ : Span)], a + 6, by omega, by go_num, rfl, by omega, by omega, by show _ ≤ _; have := hxl.out; simp; omega, HO6.out, HR6.out.up (by omega), HG6.out⟩
            case measure => simp [intOf]; omega
          · have d0 := HBl.out.cell 4
            have d1 := HBl.out.cell 5
            have e0 := HBk4.out.cell 0
            have e1 := HBk4.out.cell 1
            have g0 := HBk4.out.frozen 0
            have g1 := HBk4.out.frozen 1
            simp only [List.getElem?_toArray, List.getElem?_cons_zero, List.getElem?_cons_succ] at d0 d1 e0 e1
            go_upto_region 10 with (fail)
            have HBk5 := hide ((HBk4.out.set_ 0 (.int .i64 0)).set_ 1 (.int .i64 1001))
            have HR5 := hide ((HR4.out.far (p := ⟨w2.heap.size, 0, none⟩) HB2.out (.int .i64 0)).far (p := ⟨w2.heap.size, 1, none⟩) HB2.out (.int .i64 1001))
            have HG5 := hide (gr_setCell (gr_setCell HG4.out (p := ⟨w2.heap.size, 0, none⟩) (.inr HS2.out) (.int .i64 0)) (p := ⟨w2.heap.size, 1, none⟩) (.inr HS2.out) (.int .i64 1001))
            have HO5 := hide (HO4.out.mono (w' := (w4.setCell ⟨w2.heap.size, 0, none⟩ (.int .i64 0)).setCell ⟨w2.heap.size, 1, none⟩ (.int .i64 1001)) (S2 := fun b => w.heap.size ≤ b ∧ Old ((w4.setCell ⟨w2.heap.size, 0, none⟩ (.int .i64 0)).setCell ⟨w2.heap.size, 1, none⟩ (.int .i64 1001)) b) (fun b hb => ⟨hb.1, Nat.lt_trans hb.2 HBk5.out.lt⟩) (fun b hb => by
              have := hb.2
              rw [Below.heap_setCell _ _ _ b (by show b ≠ w2.heap.size; omega), Below.heap_setCell _ _ _ b (by show b ≠ w2.heap.size; omega)]))
            generalize (w4.setCell ⟨w2.heap.size, 0, none⟩ (.int .i64 0)).setCell ⟨w2.heap.size, 1, none⟩ (.int .i64 1001) = W5 at HBk5 HR5 HG5 HO5 ⊢
            clear d0 d1 e0 e1 g0 g1 HBk4 HBl HR4 HG4 HO4
            simp only [List.setIfInBounds_toArray, List.set_cons_succ, List.set_cons_zero] at HBk5
            have c0 := HBk5.out.cell 0
            have c1 := HBk5.out.cell 1
            simp only [List.getElem?_toArray, List.getElem?_cons_zero, List.getElem?_cons_succ] at c0 c1
            go_wp2_with (at_builtin; refine wpList_put tSpan rfl (.tmp 40) (.tmp 42) 35 rfl 44 i0 _ 16 Tryd.underlying35 hi hz0 hz1 hz2 rfl (by decide) (fun b => w.heap.size ≤ b) (fun _ => False) xs ⟨0, 1001⟩ _ _ rfl HO5.out _ rfl rfl (fun _ h => h.elim) (fun b hb => Nat.le_trans HG5.out.size hb) (by have := hxl.out; simp only [maxLen]; omega) (by have := hxl.out; omega) ?_; intro v6 w6 hO_ hK_; have HO6 := hide hO_; have HR6 := hide (HR5.out.only hK_ (fun b hb => by have := HlR.out; omega)); have HG6 := hide (gr_only HG5.out hK_ (fun _ h => h)); clear hO_ hK_)
            go_roundw
            case rel => exact ⟨k + 1, xs ++ [(⟨0, 1001⟩ : Span)], a + 6, by omega, by go_num, rfl, by omega, by omega, by show _ ≤ _; have := hxl.out; simp; omega, HO6.out, HR6.out.up (by omega), HG6.out⟩
            case measure => simp [intOf]; omega
      · refine (pick_any w1 R (P + 4 * k + 1) 12 HR1.out (by have := HP.out; omega)).mono ?_
        rintro e w2 ⟨v2, rfl, hv20, hv21, hr2, hg2⟩
        have hv12 := hv21 (by decide)
        have HR2 := hide (hr2.alloc (.cells #[.int .i64 0, .int .i64 v2] 44))
        have HG2 := hide (gr_alloc (gr_trans HG1.out hg2) (.cells #[.int .i64 0, .int .i64 v2] 44))
        have HO2 := hide ((Own.onlyGr HO1.out hg2 (by have := HlR.out; omega)).mono (w' := w2.alloc (.cells #[.int .i64 0, .int .i64 v2] 44)) (S2 := In w.heap.size w2.heap.size) (fun _ h => h) (fun b hb => Below.heap_alloc _ _ _ hb.2))
        have HB2 := hide (show R < w2.heap.size from hr2.lt)
        have HS2 := hide (gr_trans HG1.out hg2).size
        clear hr2 hg2 hv21
        obtain ⟨t, ht⟩ : ∃ t, t = 0 + v2 := ⟨_, rfl⟩
        go_wp2_with fail
        refine (odd_any _ R (P + 4 * k + 2) n HR2.out (by have := HP.out; omega) hn).mono ?_
        rintro e w3 ⟨o, rfl, hr3, hg3⟩
        have HR3 := hide hr3
        have HG3 := hide (gr_trans HG2.out hg3)
        have HO3 := hide (HO2.out.mono (S2 := In w.heap.size w2.heap.size) (fun _ h => h) (fun b hb => hg3.block b (by have := hb.2; simp; omega) (by have := hb.1; have := HlR.out; intro e; injection e; omega)))
        have HBk3 := hide (show Blk w3 w2.heap.size 44 #[.int .i64 0, .int .i64 v2] from (Blk.new w2 _ _).of (hg3.block _ (by simp) (by have := HB2.out; intro e; injection e; omega)))
        clear hr3 hg3
        cases o with
        | false =>
          have HR5 := HR3; have HG5 := HG3; have HBk5 := HBk3
          have HO5 := hide (HO3.out.mono (S2 := fun b => w.heap.size ≤ b ∧ Old w3 b) (fun b hb => ⟨hb.1, Nat.lt_trans hb.2 HBk5.out.lt⟩) (fun _ _ => rfl))
          clear HR3 HG3 HO3 HBk3
          have c0 := HBk5.out.cell 0
          have c1 := HBk5.out.cell 1
          simp only [List.getElem?_toArray, List.getElem?_cons_zero, List.getElem?_cons_succ] at c0 c1
          go_wp2_with (at_builtin; refine wpList_put tSpan rfl (.tmp 40) (.tmp 42) 35 rfl 44 i0 _ 16 Tryd.underlying35 hi hz0 hz1 hz2 rfl (by decide) (fun b => w.heap.size ≤ b) (fun _ => False) xs ⟨0, v2⟩ _ _ rfl HO5.out _ rfl rfl (fun _ h => h.elim) (fun b hb => Nat.le_trans HG5.out.size hb) (by have := hxl.out; simp only [maxLen]; omega) (by have := hxl.out; omega) ?_; intro v6 w6 hO_ hK_; have HO6 := hide hO_; have HR6 := hide (HR5.out.only hK_ (fun b hb => by have := HlR.out; omega)); have HG6 := hide (gr_only HG5.out hK_ (fun _ h => h)); clear hO_ hK_)
          go_roundw
          case rel => exact ⟨k + 1, xs ++ [(⟨0, v2⟩ : Span)], a + 6, by omega, by go_num, rfl, by omega, by omega, by show _ ≤ _; have := hxl.out; simp; omega, HO6.out, HR6.out.up (by omega), HG6.out⟩
          case measure => simp [intOf]; omega
        | true =>
          have HR3a := hide (HR3.out.alloc (.cells #[.int .i64 2, .int .i64 1, .int .i64 (-1), .int .i64 0, .int .i64 0, .int .i64 1001] 44))
          have HG3a := hide (gr_alloc HG3.out (.cells #[.int .i64 2, .int .i64 1, .int .i64 (-1), .int .i64 0, .int .i64 0, .int .i64 1001] 44))
          have HO3a := hide (HO3.out.mono (w' := w3.alloc (.cells #[.int .i64 2, .int .i64 1, .int .i64 (-1), .int .i64 0, .int .i64 0, .int .i64 1001] 44)) (S2 := In w.heap.size w2.heap.size) (fun _ h => h) (fun b hb => Below.heap_alloc _ _ _ (Nat.lt_trans hb.2 HBk3.out.lt)))
          have HBk3a := hide (HBk3.out.alloc (.cells #[.int .i64 2, .int .i64 1, .int .i64 (-1), .int .i64 0, .int .i64 0, .int .i64 1001] 44))
          have HS3 := hide HG3.out.size
          have HBL := hide HBk3.out.lt
          go_wp2_with fail
          refine (pick_any _ R (P + 4 * k + 3) 3 HR3a.out (by have := HP.out; omega)).mono ?_
          rintro e w4 ⟨y, rfl, hy0, hy1, hr4, hg4⟩
          have HR4 := hide hr4
          have HG4 := hide (gr_trans HG3a.out hg4)
          have HO4 := hide (HO3a.out.mono (S2 := In w.heap.size w2.heap.size) (fun _ h => h) (fun b hb => hg4.block b (by have := hb.2; have := HBL.out; simp; omega) (by have := hb.1; have := HlR.out; intro e; injection e; omega)))
          have hBk4 := HBk3a.out.of (hg4.block _ (by have := HBL.out; simp; omega) (by have := HB2.out; intro e; injection e; omega))
          have hBL := (Blk.new w3 44 #[.int .i64 2, .int .i64 1, .int .i64 (-1), .int .i64 0, .int .i64 0, .int .i64 1001]).of (hg4.block _ (by simp) (by have := HR3.out.lt; intro e; injection e; omega))
          have hy3 : y = 0 ∨ y = 1 ∨ y = 2 := by have := hy1 (by decide); omega
          have HBk4 := hide hBk4
          have HBl := hide hBL
          clear hr4 hg4 hy0 hy1 HR3a HO3a HG3a HBk3a hBk4 hBL
          rcases hy3 with rfl | rfl | rfl
          · have d0 := HBl.out.cell 0
            have d1 := HBl.out.cell 1
            have e0 := HBk4.out.cell 0
            have e1 := HBk4.out.cell 1
            have g0 := HBk4.out.frozen 0
            have g1 := HBk4.out.frozen 1
            simp only [List.getElem?_toArray, List.getElem?_cons_zero, List.getElem?_cons_succ] at d0 d1 e0 e1
            go_upto_region 10 with (fail)
            have HBk5 := hide ((HBk4.out.set_ 0 (.int .i64 2)).set_ 1 (.int .i64 1))
            have HR5 := hide ((HR4.out.far (p := ⟨w2.heap.size, 0, none⟩) HB2.out (.int .i64 2)).far (p := ⟨w2.heap.size, 1, none⟩) HB2.out (.int .i64 1))
            have HG5 := hide (gr_setCell (gr_setCell HG4.out (p := ⟨w2.heap.size, 0, none⟩) (.inr HS2.out) (.int .i64 2)) (p := ⟨w2.heap.size, 1, none⟩) (.inr HS2.out) (.int .i64 1))
            have HO5 := hide (HO4.out.mono (w' := (w4.setCell ⟨w2.heap.size, 0, none⟩ (.int .i64 2)).setCell ⟨w2.heap.size, 1, none⟩ (.int .i64 1)) (S2 := fun b => w.heap.size ≤ b ∧ Old ((w4.setCell ⟨w2.heap.size, 0, none⟩ (.int .i64 2)).setCell ⟨w2.heap.size, 1, none⟩ (.int .i64 1)) b) (fun b hb => ⟨hb.1, Nat.lt_trans hb.2 HBk5.out.lt⟩) (fun b hb => by
              have := hb.2
              rw [Below.heap_setCell _ _ _ b (by show b ≠ w2.heap.size; omega), Below.heap_setCell _ _ _ b (by show b ≠ w2.heap.size; omega)]))
            generalize (w4.setCell ⟨w2.heap.size, 0, none⟩ (.int .i64 2)).setCell ⟨w2.heap.size, 1, none⟩ (.int .i64 1) = W5 at HBk5 HR5 HG5 HO5 ⊢
            clear d0 d1 e0 e1 g0 g1 HBk4 HBl HR4 HG4 HO4
            simp only [List.setIfInBounds_toArray, List.set_cons_succ, List.set_cons_zero] at HBk5
            have c0 := HBk5.out.cell 0
            have c1 := HBk5.out.cell 1
            simp only [List.getElem?_toArray, List.getElem?_cons_zero, List.getElem?_cons_succ] at c0 c1
            go_wp2_with (at_builtin; refine wpList_put tSpan rfl (.tmp 40) (.tmp 42) 35 rfl 44 i0 _ 16 Tryd.underlying35 hi hz0 hz1 hz2 rfl (by decide) (fun b => w.heap.size ≤ b) (fun _ => False) xs ⟨2, 1⟩ _ _ rfl HO5.out _ rfl rfl (fun _ h => h.elim) (fun b hb => Nat.le_trans HG5.out.size hb) (by have := hxl.out; simp only [maxLen]; omega) (by have := hxl.out; omega) ?_; intro v6 w6 hO_ hK_; have HO6 := hide hO_; have HR6 := hide (HR5.out.only hK_ (fun b hb => by have := HlR.out; omega)); have HG6 := hide (gr_only HG5.out hK_ (fun _ h => h)); clear hO_ hK_)
            go_roundw
            case rel => exact ⟨k + 1, xs ++ [(⟨2, 1⟩ : Span)], a + 6, by omega, by go_num, rfl, by omega, by omega, by show _ ≤ _; have := hxl.out; simp; omega, HO6.out, HR6.out.up (by omega), HG6.out⟩
            case measure => simp [intOf]; omega
          · have d0 := HBl.out.cell 2
            have d1 := HBl.out.cell 3
            have e0 := HBk4.out.cell 0
            have e1 := HBk4.out.cell 1
            have g0 := HBk4.out.frozen 0
            have g1 := HBk4.out.frozen 1
            simp only [List.getElem?_toArray, List.getElem?_cons_zero, List.getElem?_cons_succ] at d0 d1 e0 e1
            go_upto_region 10 with (fail)
            have HBk5 := hide ((HBk4.out.set_ 0 (.int .i64 (-1))).set_ 1 (.int .i64 0))
            have HR5 := hide ((HR4.out.far (p := ⟨w2.heap.size, 0, none⟩) HB2.out (.int .i64 (-1))).far (p := ⟨w2.heap.size, 1, none⟩) HB2.out (.int .i64 0))
            have HG5 := hide (gr_setCell (gr_setCell HG4.out (p := ⟨w2.heap.size, 0, none⟩) (.inr HS2.out) (.int .i64 (-1))) (p := ⟨w2.heap.size, 1, none⟩) (.inr HS2.out) (.int .i64 0))
            have HO5 := hide (HO4.out.mono (w' := (w4.setCell ⟨w2.heap.size, 0, none⟩ (.int .i64 (-1))).setCell ⟨w2.heap.size, 1, none⟩ (.int .i64 0)) (S2 := fun b => w.heap.size ≤ b ∧ Old ((w4.setCell ⟨w2.heap.size, 0, none⟩ (.int .i64 (-1))).setCell ⟨w2.heap.size, 1, none⟩ (.int .i64 0)) b) (fun b hb => ⟨hb.1, Nat.lt_trans hb.2 HBk5.out.lt⟩) (fun b hb => by
              have := hb.2
              rw [Below.heap_setCell _ _ _ b (by show b ≠ w2.heap.size; omega), Below.heap_setCell _ _ _ b (by show b ≠ w2.heap.size; omega)]))
            generalize (w4.setCell ⟨w2.heap.size, 0, none⟩ (.int .i64 (-1))).setCell ⟨w2.heap.size, 1, none⟩ (.int .i64 0) = W5 at HBk5 HR5 HG5 HO5 ⊢
            clear d0 d1 e0 e1 g0 g1 HBk4 HBl HR4 HG4 HO4
            simp only [List.setIfInBounds_toArray, List.set_cons_succ, List.set_cons_zero] at HBk5
            have c0 := HBk5.out.cell 0
            have c1 := HBk5.out.cell 1
            simp only [List.getElem?_toArray, List.getElem?_cons_zero, List.getElem?_cons_succ] at c0 c1
            go_wp2_with (at_builtin; refine wpList_put tSpan rfl (.tmp 40) (.tmp 42) 35 rfl 44 i0 _ 16 Tryd.underlying35 hi hz0 hz1 hz2 rfl (by decide) (fun b => w.heap.size ≤ b) (fun _ => False) xs ⟨(-1), 0⟩ _ _ rfl HO5.out _ rfl rfl (fun _ h => h.elim) (fun b hb => Nat.le_trans HG5.out.size hb) (by have := hxl.out; simp only [maxLen]; omega) (by have := hxl.out; omega) ?_; intro v6 w6 hO_ hK_; have HO6 := hide hO_; have HR6 := hide (HR5.out.only hK_ (fun b hb => by have := HlR.out; omega)); have HG6 := hide (gr_only HG5.out hK_ (fun _ h => h)); clear hO_ hK_)
            go_roundw
            case rel => exact ⟨k + 1, xs ++ [(⟨(-1), 0⟩ : Span)], a + 6, by omega, by go_num, rfl, by omega, by omega, by show _ ≤ _; have := hxl.out; simp; omega, HO6.out, HR6.out.up (by omega), HG6.out⟩
            case measure => simp [intOf]; omega
          · have d0 := HBl.out.cell 4
            have d1 := HBl.out.cell 5
            have e0 := HBk4.out.cell 0
            have e1 := HBk4.out.cell 1
            have g0 := HBk4.out.frozen 0
            have g1 := HBk4.out.frozen 1
            simp only [List.getElem?_toArray, List.getElem?_cons_zero, List.getElem?_cons_succ] at d0 d1 e0 e1
            go_upto_region 10 with (fail)
            have HBk5 := hide ((HBk4.out.set_ 0 (.int .i64 0)).set_ 1 (.int .i64 1001))
            have HR5 := hide ((HR4.out.far (p := ⟨w2.heap.size, 0, none⟩) HB2.out (.int .i64 0)).far (p := ⟨w2.heap.size, 1, none⟩) HB2.out (.int .i64 1001))
            have HG5 := hide (gr_setCell (gr_setCell HG4.out (p := ⟨w2.heap.size, 0, none⟩) (.inr HS2.out) (.int .i64 0)) (p := ⟨w2.heap.size, 1, none⟩) (.inr HS2.out) (.int .i64 1001))
            have HO5 := hide (HO4.out.mono (w' := (w4.setCell ⟨w2.heap.size, 0, none⟩ (.int .i64 0)).setCell ⟨w2.heap.size, 1, none⟩ (.int .i64 1001)) (S2 := fun b => w.heap.size ≤ b ∧ Old ((w4.setCell ⟨w2.heap.size, 0, none⟩ (.int .i64 0)).setCell ⟨w2.heap.size, 1, none⟩ (.int .i64 1001)) b) (fun b hb => ⟨hb.1, Nat.lt_trans hb.2 HBk5.out.lt⟩) (fun b hb => by
              have := hb.2
              rw [Below.heap_setCell _ _ _ b (by show b ≠ w2.heap.size; omega), Below.heap_setCell _ _ _ b (by show b ≠ w2.heap.size; omega)]))
            generalize (w4.setCell ⟨w2.heap.size, 0, none⟩ (.int .i64 0)).setCell ⟨w2.heap.size, 1, none⟩ (.int .i64 1001) = W5 at HBk5 HR5 HG5 HO5 ⊢
            clear d0 d1 e0 e1 g0 g1 HBk4 HBl HR4 HG4 HO4
            simp only [List.setIfInBounds_toArray, List.set_cons_succ, List.set_cons_zero] at HBk5
            have c0 := HBk5.out.cell 0
            have c1 := HBk5.out.cell 1
            simp only [List.getElem?_toArray, List.getElem?_cons_zero, List.getElem?_cons_succ] at c0 c1
            go_wp2_with (at_builtin; refine wpList_put tSpan rfl (.tmp 40) (.tmp 42) 35 rfl 44 i0 _ 16 Tryd.underlying35 hi hz0 hz1 hz2 rfl (by decide) (fun b => w.heap.size ≤ b) (fun _ => False) xs ⟨0, 1001⟩ _ _ rfl HO5.out _ rfl rfl (fun _ h => h.elim) (fun b hb => Nat.le_trans HG5.out.size hb) (by have := hxl.out; simp only [maxLen]; omega) (by have := hxl.out; omega) ?_; intro v6 w6 hO_ hK_; have HO6 := hide hO_; have HR6 := hide (HR5.out.only hK_ (fun b hb => by have := HlR.out; omega)); have HG6 := hide (gr_only HG5.out hK_ (fun _ h => h)); clear hO_ hK_)
            go_roundw
            case rel => exact ⟨k + 1, xs ++ [(⟨0, 1001⟩ : Span)], a + 6, by omega, by go_num, rfl, by omega, by omega, by show _ ≤ _; have := hxl.out; simp; omega, HO6.out, HR6.out.up (by omega), HG6.out⟩
            case measure => simp [intOf]; omega
    · obtain rfl : k = m := by omega
      go_wp2_with fail
      go_ret
      exact ⟨xs, _, rfl, by have := hxl.out; omega, hO.out, hR.out.up (by omega), hG.out⟩

/-- A list that was drawn for a law. -/
def DrawnL {α : Type} (T : Ty α) (e : TypeId) (n : Nat) (w : World) (en : Ending) (w' : World) : Prop := ∃ (xs : List α) (v : Value), en = .returned v ∧ xs.length ≤ n ∧ Own T e w' (New w w') xs v ∧ Below w.heap.size w w'
def DrawnIL {α : Type} (T : Ty α) (e : TypeId) (n : Nat) (w : World) (en : Ending) (w' : World) : Prop := ∃ (m : Int) (xs : List α) (v : Value), en = .returned (.tuple #[.int .i64 m, v]) ∧ xs.length ≤ n ∧ Own T e w' (New w w') xs v ∧ Below w.heap.size w w'
end Go.Proofs.YtaaagoppecnmmaaDoor
