/- l20Calls: some list of calls, in memory of the call's own. -/
import Derived.Test.YtpcghfeiehdapaaDoorBox
import Derived.Test.YtpcghfeiehdapaaDoorSpansD
namespace Go.Proofs.YtpcghfeiehdapaaDoor
open Go.RowKit
set_option linter.unusedVariables false

theorem infoCallD : (Tryd.prog.info? 37).map (fun i => (i.zero, i.size, i.bytes)) = some (some (.agg #[.int .i64 0, .int .i64 0, .int .i64 0, .int .i64 0]), 4, 32) := by kernel_rfl
set_option maxRecDepth 10000 in
set_option maxHeartbeats 8000000 in
theorem calls_any (w : World) (R P : Nat) (n : Int) (h : Rd w R P) (hP : P ≤ 500) (hn : n ≤ 1000000) :
    Calls Tryd.prog 15 #[.pointer (some ⟨R, 0, none⟩), .int .i64 n] w (Drawn tCall 37 w R (P + 200) 20) := by
  obtain ⟨i0, hi, hz0, hz1, hz2⟩ := info_parts infoCallD
  have HR0 := hide (h.alloc (.cells #[] 37))
  have HlR := hide h.lt
  have HP := hide hP
  have HG0 := hide (gr_alloc (gr_refl w R) (.cells #[] 37))
  have hO0 := Own.empty (T := tCall) (e := 37) w (fun b => b = w.heap.size) rfl
  have HO0 := hide hO0
  clear h hP hO0
  go_enter Tryd.func15, Tryd.ntmps15
  go_wp2_with fail
  refine (pick_any _ R P 6 HR0.out (by have := HP.out; omega)).mono ?_
  rintro e w1 ⟨m, rfl, hm0, hm1, hr1, hg1⟩
  have HR1 := hide hr1
  have HG1 := hide (gr_trans HG0.out hg1)
  have HO1 := hide (HO0.out.mono (w' := w1) (S2 := fun b => b = w.heap.size) (fun _ h => h.1) (fun b hb => hg1.block b hb.2 (by have h1 : b = w.heap.size := hb.1; have := HlR.out; intro e; injection e; omega)))
  have hlo : w.heap.size < w1.heap.size := by have := hg1.size; simp at this; omega
  have hm6 := hm1 (by decide)
  obtain ⟨mn, rfl⟩ : ∃ n : Nat, m = (n : Int) := ⟨m.toNat, by omega⟩
  clear hm1 hr1 hg1 HG0 HR0 HO0
  go_wp2_with fail
  refine (spans_any _ R (P + 1) mn 0 HR1.out (by have := HP.out; omega) (by omega) (by omega)).mono ?_
  rintro e w2 ⟨sp, vs, rfl, hsx, hso, hr2, hg2⟩
  have HR2 := hide (hr2.up (Q := P + 50) (by omega))
  have HG2 := hide (gr_trans HG1.out hg2)
  obtain ⟨As, cs_, rfl, hle2, hcm2, hSp2⟩ := hso.sl
  obtain ⟨lo, hlo2⟩ : ∃ n, n = w1.heap.size := ⟨_, rfl⟩
  obtain ⟨hi2, hhi2⟩ : ∃ n, n = w2.heap.size := ⟨_, rfl⟩
  have HSp2 := hide (show Row tSpan w2 (In lo hi2) As sp by rw [hlo2, hhi2]; exact hSp2)
  have HSz2 := hide (show hi2 ≤ w2.heap.size by omega)
  have HO2 := hide (HO1.out.mono (w' := w2) (S2 := fun b => (w.heap.size ≤ b ∧ ¬ (lo ≤ b ∧ b < hi2)) ∧ Old w2 b) (fun b hb => by have hb' : b = w.heap.size := hb; have := hg2.size; exact ⟨⟨by omega, by omega⟩, show b < _ by omega⟩) (fun b hb => hg2.block b (by have hb' : b = w.heap.size := hb; omega) (by have hb' : b = w.heap.size := hb; have := HlR.out; intro e; injection e; omega)))
  have HLo := hide (show R < lo by have := HlR.out; omega)
  clear hr2 hg2 hso hSp2 hhi2 hlo2 HO1 HG1 HR1 hlo
  go_wp2_with fail
  go_loopw [5, 7, 8] (fun v va i wr => ∃ (k : Nat) (xs : List Call) (val : Int), k ≤ sp.length ∧ i = .int .i64 k ∧ va = .int .i64 val ∧ 0 ≤ val ∧ val ≤ 10 ∧ Hid (xs.length ≤ k) ∧ Hid (Own tCall 37 wr (fun b => (w.heap.size ≤ b ∧ ¬ (lo ≤ b ∧ b < hi2)) ∧ Old wr b) xs v) ∧ Hid (Row tSpan wr (In lo hi2) As sp) ∧ Hid (hi2 ≤ wr.heap.size) ∧ Hid (Rd wr R (P + 50 + 3 * k)) ∧ Hid (Gr w wr R)) (fun _ _ i _ => sp.length - (intOf i).toNat)
  case atStart => exact ⟨0, [], 0, Nat.zero_le _, rfl, rfl, by omega, by omega, by simp [Hid], HO2.out, HSp2.out, HSz2.out, HR2.out, HG2.out⟩
  case round =>
    obtain ⟨k, xs, val, hk, rfl, rfl, hval0, hval1, hxl, hO, hSp, hSz, hR, hG⟩ := hrel
    clear HO2 HSp2 HSz2 HR2 HG2
    by_cases hlt : k < sp.length
    · obtain ⟨b, off, hAs, hbS, c0, c1⟩ := at_Span (w := wr) (hSp.out.inOld hSz.out) (Below.refl _ _) hlt
      generalize hsf : sp[k] = s at c0 c1
      have HSf := hide hsf
      clear hsf
      obtain ⟨f, t⟩ := s
      subst hAs
      dsimp only at c0 c1
      have HX1 := hide (Box.make (K := (fun b => w.heap.size ≤ b ∧ ¬ (lo ≤ b ∧ b < hi2))) (cs := #[.int .i64 1, .int .i64 val, .int .i64 f, .int .i64 t]) (t := 37) hR.out hG.out hO.out HlR.out)
      have HSp1 := hide (hSp.out.inAlloc hSz.out (.cells #[.int .i64 1, .int .i64 val, .int .i64 f, .int .i64 t] 37))
      have HSz1 := hide (show hi2 ≤ (wr.alloc (.cells #[.int .i64 1, .int .i64 val, .int .i64 f, .int .i64 t] 37)).heap.size by have := hSz.out; simp; omega)
      have HBs := hide (show hi2 ≤ wr.heap.size from hSz.out)
      clear hR hG hO hSp hSz
      go_wp2_with fail
      refine (pick_any _ R (P + 50 + 3 * k) 2 HX1.out.rd (by have := HP.out; omega)).mono ?_
      rintro e w3 ⟨y, rfl, hy0, hy1, hr3, hg3⟩
      have HX3 := hide (HX1.out.pick hr3 hg3 (fun _ h => h.1))
      have HSp3 := hide (HSp1.out.inGr hg3 HLo.out HSz1.out)
      have HSz3 := hide (Nat.le_trans HSz1.out hg3.size)
      clear hr3 hg3 hy1 c0 c1 HX1 HSp1 HSz1 hbS
      cases hy : (y == 0) with
      | true =>
        go_wp2_with fail
        clear hy
        refine (pick_any _ R (P + 50 + 3 * k + 1) 9 HX3.out.rd (by have := HP.out; omega)).mono ?_
        rintro e w4 ⟨p, rfl, hp0, hp1, hrb, hgb⟩
        have HX4 := hide (HX3.out.pick hrb hgb (fun _ h => h.1))
        have HSp4 := hide (HSp3.out.inGr hgb HLo.out HSz3.out)
        have HSz4 := hide (Nat.le_trans HSz3.out hgb.size)
        have hpn := hp1 (by decide)
        clear hrb hgb hp1 HX3 HSp3 HSz3
        obtain ⟨b', off', hAs, hbS', c0, c1⟩ := at_Span (w := w4) (HSp4.out.inOld HSz4.out) (Below.refl _ _) hlt
        obtain ⟨rfl, rfl⟩ : b = b' ∧ off = off' := by simpa using hAs
        rw [HSf.out] at c0 c1
        dsimp only at c0 c1
        have hBk := HX4.out.blk
        have e0 := hBk.cell 0
        have e1 := hBk.cell 1
        have e2 := hBk.cell 2
        have e3 := hBk.cell 3
        have g0 := hBk.frozen 0
        have g1 := hBk.frozen 1
        have g2 := hBk.frozen 2
        have g3 := hBk.frozen 3
        simp only [List.getElem?_toArray, List.getElem?_cons_zero, List.getElem?_cons_succ] at e0 e1 e2 e3
        clear hBk hAs
        go_upto_region 13 with (fail)
        have HX5 := hide ((((HX4.out.set 0 (.int .i64 2)).set 1 (.int .i64 (1 + p))).set 2 (.int .i64 f)).set 3 (.int .i64 t))
        have HSp5 := hide ((((HSp4.out.inSet (p := ⟨wr.heap.size, 0, none⟩) HBs.out (.int .i64 2)).inSet (p := ⟨wr.heap.size, 1, none⟩) HBs.out (.int .i64 (1 + p))).inSet (p := ⟨wr.heap.size, 2, none⟩) HBs.out (.int .i64 f)).inSet (p := ⟨wr.heap.size, 3, none⟩) HBs.out (.int .i64 t))
        have HSz5 := hide (show hi2 ≤ ((((w4.setCell ⟨wr.heap.size, 0, none⟩ (.int .i64 2)).setCell ⟨wr.heap.size, 1, none⟩ (.int .i64 (1 + p))).setCell ⟨wr.heap.size, 2, none⟩ (.int .i64 f)).setCell ⟨wr.heap.size, 3, none⟩ (.int .i64 t)).heap.size by have := HSz4.out; simpa [World.setCell] using this)
        generalize ((((w4.setCell ⟨wr.heap.size, 0, none⟩ (.int .i64 2)).setCell ⟨wr.heap.size, 1, none⟩ (.int .i64 (1 + p))).setCell ⟨wr.heap.size, 2, none⟩ (.int .i64 f)).setCell ⟨wr.heap.size, 3, none⟩ (.int .i64 t)) = W5 at HX5 HSp5 HSz5 ⊢
        simp only [List.setIfInBounds_toArray, List.set_cons_succ, List.set_cons_zero] at HX5
        clear c0 c1 e0 e1 e2 e3 g0 g1 g2 g3 HX4 HSp4 HSz4
        have HX5s := HX5.out.blk
        have c0 := HX5s.cell 0
        have c1 := HX5s.cell 1
        have c2 := HX5s.cell 2
        have c3 := HX5s.cell 3
        simp only [List.getElem?_toArray, List.getElem?_cons_zero, List.getElem?_cons_succ] at c0 c1 c2 c3
        clear HX5s
        go_wp2_with (at_builtin; refine wpList_put tCall rfl (.tmp 45) (.tmp 47) 23 rfl 37 i0 _ 32 Tryd.underlying23 hi hz0 hz1 hz2 rfl (by decide) (fun b => w.heap.size ≤ b ∧ ¬ (lo ≤ b ∧ b < hi2)) (fun _ => False) xs ⟨2, (1 + p), ⟨f, t⟩⟩ _ _ rfl HX5.out.open_ _ rfl rfl (fun _ h => h.elim) (fun b hb => ⟨Nat.le_trans HX5.out.gr.size hb, fun h => by have := HSz5.out; omega⟩) (by have := hxl.out; simp only [maxLen]; omega) (by have := hxl.out; omega) ?_; intro v6 w6 hO_ hK_; have HO6 := hide hO_; have HR6 := hide (HX5.out.rd.only hK_ (fun b hb => by have := HlR.out; have := hb.1; omega)); have HG6 := hide (gr_only HX5.out.gr hK_ (fun _ h => h.1)); have HSp6 := hide (HSp5.out.inOnly hK_ HSz5.out (fun b h1 h2 h3 => h3.2 ⟨h1, h2⟩)); have HSz6 := hide (Nat.le_trans HSz5.out hK_.size); clear hO_ hK_)
        go_roundw
        case rel => exact ⟨k + 1, xs ++ [(⟨2, (1 + p), ⟨f, t⟩⟩ : Call)], 1 + p, by omega, by go_num, rfl, by omega, by omega, by show _ ≤ _; have := hxl.out; simp; omega, HO6.out, HSp6.out, HSz6.out, HR6.out.up (by omega), HG6.out⟩
        case measure => simp [intOf]; omega
      | false =>
        go_wp2_with fail
        clear hy
        refine (pick_any _ R (P + 50 + 3 * k + 1) 5 HX3.out.rd (by have := HP.out; omega)).mono ?_
        rintro e w4 ⟨q, rfl, hq0, hq1, hrb, hgb⟩
        have HX4 := hide (HX3.out.pick hrb hgb (fun _ h => h.1))
        have HSp4 := hide (HSp3.out.inGr hgb HLo.out HSz3.out)
        have HSz4 := hide (Nat.le_trans HSz3.out hgb.size)
        have hqn := hq1 (by decide)
        clear hrb hgb hq1 HX3 HSp3 HSz3
        cases hq : (q == 0) with
        | true =>
          go_wp2_with fail
          clear hq
          refine (pick_any _ R (P + 50 + 3 * k + 2) 9 HX4.out.rd (by have := HP.out; omega)).mono ?_
          rintro e w6 ⟨p, rfl, hp0, hp1, hrb, hgb⟩
          have HX6 := hide (HX4.out.pick hrb hgb (fun _ h => h.1))
          have HSp6 := hide (HSp4.out.inGr hgb HLo.out HSz4.out)
          have HSz6 := hide (Nat.le_trans HSz4.out hgb.size)
          have hpn := hp1 (by decide)
          clear hrb hgb hp1 HX4 HSp4 HSz4
          have hBk := HX6.out.blk
          have e1 := hBk.cell 1
          have g1 := hBk.frozen 1
          simp only [List.getElem?_toArray, List.getElem?_cons_zero, List.getElem?_cons_succ] at e1
          clear hBk
          go_upto_region 13 with (fail)
          have HX5 := hide (HX6.out.set 1 (.int .i64 p))
          have HSp5 := hide (HSp6.out.inSet (p := ⟨wr.heap.size, 1, none⟩) HBs.out (.int .i64 p))
          have HSz5 := hide (show hi2 ≤ (w6.setCell ⟨wr.heap.size, 1, none⟩ (.int .i64 p)).heap.size by have := HSz6.out; simpa [World.setCell] using this)
          generalize w6.setCell ⟨wr.heap.size, 1, none⟩ (.int .i64 p) = W5 at HX5 HSp5 HSz5 ⊢
          simp only [List.setIfInBounds_toArray, List.set_cons_succ, List.set_cons_zero] at HX5
          clear e1 g1 HX6 HSp6 HSz6
          have HX5s := HX5.out.blk
          have c0 := HX5s.cell 0
          have c1 := HX5s.cell 1
          have c2 := HX5s.cell 2
          have c3 := HX5s.cell 3
          simp only [List.getElem?_toArray, List.getElem?_cons_zero, List.getElem?_cons_succ] at c0 c1 c2 c3
          clear HX5s
          go_wp2_with (at_builtin; refine wpList_put tCall rfl (.tmp 45) (.tmp 47) 23 rfl 37 i0 _ 32 Tryd.underlying23 hi hz0 hz1 hz2 rfl (by decide) (fun b => w.heap.size ≤ b ∧ ¬ (lo ≤ b ∧ b < hi2)) (fun _ => False) xs ⟨1, p, ⟨f, t⟩⟩ _ _ rfl HX5.out.open_ _ rfl rfl (fun _ h => h.elim) (fun b hb => ⟨Nat.le_trans HX5.out.gr.size hb, fun h => by have := HSz5.out; omega⟩) (by have := hxl.out; simp only [maxLen]; omega) (by have := hxl.out; omega) ?_; intro v6 w7 hO_ hK_; have HO7 := hide hO_; have HR7 := hide (HX5.out.rd.only hK_ (fun b hb => by have := HlR.out; have := hb.1; omega)); have HG7 := hide (gr_only HX5.out.gr hK_ (fun _ h => h.1)); have HSp7 := hide (HSp5.out.inOnly hK_ HSz5.out (fun b h1 h2 h3 => h3.2 ⟨h1, h2⟩)); have HSz7 := hide (Nat.le_trans HSz5.out hK_.size); clear hO_ hK_)
          go_roundw
          case rel => exact ⟨k + 1, xs ++ [(⟨1, p, ⟨f, t⟩⟩ : Call)], val, by omega, by go_num, rfl, by omega, by omega, by show _ ≤ _; have := hxl.out; simp; omega, HO7.out, HSp7.out, HSz7.out, HR7.out.up (by omega), HG7.out⟩
          case measure => simp [intOf]; omega
        | false =>
          go_upto_region 13 with (fail)
          clear hq
          have HX5 := HX4; have HSp5 := HSp4; have HSz5 := HSz4
          clear HX4 HSp4 HSz4
          have HX5s := HX5.out.blk
          have c0 := HX5s.cell 0
          have c1 := HX5s.cell 1
          have c2 := HX5s.cell 2
          have c3 := HX5s.cell 3
          simp only [List.getElem?_toArray, List.getElem?_cons_zero, List.getElem?_cons_succ] at c0 c1 c2 c3
          clear HX5s
          go_wp2_with (at_builtin; refine wpList_put tCall rfl (.tmp 45) (.tmp 47) 23 rfl 37 i0 _ 32 Tryd.underlying23 hi hz0 hz1 hz2 rfl (by decide) (fun b => w.heap.size ≤ b ∧ ¬ (lo ≤ b ∧ b < hi2)) (fun _ => False) xs ⟨1, val, ⟨f, t⟩⟩ _ _ rfl HX5.out.open_ _ rfl rfl (fun _ h => h.elim) (fun b hb => ⟨Nat.le_trans HX5.out.gr.size hb, fun h => by have := HSz5.out; omega⟩) (by have := hxl.out; simp only [maxLen]; omega) (by have := hxl.out; omega) ?_; intro v6 w6 hO_ hK_; have HO6 := hide hO_; have HR6 := hide (HX5.out.rd.only hK_ (fun b hb => by have := HlR.out; have := hb.1; omega)); have HG6 := hide (gr_only HX5.out.gr hK_ (fun _ h => h.1)); have HSp6 := hide (HSp5.out.inOnly hK_ HSz5.out (fun b h1 h2 h3 => h3.2 ⟨h1, h2⟩)); have HSz6 := hide (Nat.le_trans HSz5.out hK_.size); clear hO_ hK_)
          go_roundw
          case rel => exact ⟨k + 1, xs ++ [(⟨1, val, ⟨f, t⟩⟩ : Call)], val, by omega, by go_num, rfl, by omega, by omega, by show _ ≤ _; have := hxl.out; simp; omega, HO6.out, HSp6.out, HSz6.out, HR6.out.up (by omega), HG6.out⟩
          case measure => simp [intOf]; omega
    · obtain rfl : k = sp.length := by omega
      have hsl : sp.length ≤ 10 := hsx
      go_wp2_with fail
      refine (odd_any wr R (P + 50 + 3 * sp.length) n hR.out (by have := HP.out; omega) hn).mono ?_
      rintro e w3 ⟨o, rfl, hr3, hg3⟩
      have HR3 := hide (hr3.up (Q := P + 90) (by omega))
      have HG3 := hide (gr_trans hG.out hg3)
      have HO3 := hide (hO.out.onlyGr hg3 (by have := HlR.out; omega))
      have HSz3 := hide (Nat.le_trans hSz.out hg3.size)
      clear hr3 hg3 hR hG hO hSp hSz
      cases o with
      | false =>
        go_wp2_with fail
        go_ret
        exact ⟨xs, _, rfl, by have := hxl.out; omega, HO3.out.mono (fun b h => ⟨h.1.1, h.2⟩) (fun _ _ => rfl), HR3.out.up (by omega), HG3.out⟩
      | true =>
        have HRa := hide (HR3.out.alloc (.cells #[.int .i64 0, .int .i64 0, .int .i64 0, .int .i64 0, .int .i64 1, .int .i64 (-1), .int .i64 0, .int .i64 0, .int .i64 2, .int .i64 100, .int .i64 0, .int .i64 0, .int .i64 1, .int .i64 0, .int .i64 2, .int .i64 1] 37))
        have HGa := hide (gr_alloc HG3.out (.cells #[.int .i64 0, .int .i64 0, .int .i64 0, .int .i64 0, .int .i64 1, .int .i64 (-1), .int .i64 0, .int .i64 0, .int .i64 2, .int .i64 100, .int .i64 0, .int .i64 0, .int .i64 1, .int .i64 0, .int .i64 2, .int .i64 1] 37))
        have HOa := hide (HO3.out.onlyBelow ((Below.refl _ _).alloc (Nat.le_refl _) (.cells #[.int .i64 0, .int .i64 0, .int .i64 0, .int .i64 0, .int .i64 1, .int .i64 (-1), .int .i64 0, .int .i64 0, .int .i64 2, .int .i64 100, .int .i64 0, .int .i64 0, .int .i64 1, .int .i64 0, .int .i64 2, .int .i64 1] 37)))
        have HSza := hide (show hi2 ≤ (w3.alloc (.cells #[.int .i64 0, .int .i64 0, .int .i64 0, .int .i64 0, .int .i64 1, .int .i64 (-1), .int .i64 0, .int .i64 0, .int .i64 2, .int .i64 100, .int .i64 0, .int .i64 0, .int .i64 1, .int .i64 0, .int .i64 2, .int .i64 1] 37)).heap.size by have := HSz3.out; simp; omega)
        go_wp2_with fail
        refine (pick_any _ R (P + 90) 4 HRa.out (by have := HP.out; omega)).mono ?_
        rintro e w4 ⟨y, rfl, hy0, hy1, hr4, hg4⟩
        have HR4 := hide hr4
        have HG4 := hide (gr_trans HGa.out hg4)
        have HO4 := hide (HOa.out.onlyGr hg4 (by have := HlR.out; omega))
        have HSz4 := hide (Nat.le_trans HSza.out hg4.size)
        have hBL := (Blk.new w3 37 #[.int .i64 0, .int .i64 0, .int .i64 0, .int .i64 0, .int .i64 1, .int .i64 (-1), .int .i64 0, .int .i64 0, .int .i64 2, .int .i64 100, .int .i64 0, .int .i64 0, .int .i64 1, .int .i64 0, .int .i64 2, .int .i64 1]).of (hg4.block _ (by simp) (by have := HR3.out.lt; intro e; injection e; omega))
        have HBl := hide hBL
        have hy3 : y = 0 ∨ y = 1 ∨ y = 2 ∨ y = 3 := by have := hy1 (by decide); omega
        clear hr4 hg4 hy0 hy1 HRa HOa HGa HSza hBL
        rcases hy3 with rfl | rfl | rfl | rfl
        · have d0 := HBl.out.cell 0
          have d1 := HBl.out.cell 1
          have d2 := HBl.out.cell 2
          have d3 := HBl.out.cell 3
          simp only [List.getElem?_toArray, List.getElem?_cons_zero, List.getElem?_cons_succ] at d0 d1 d2 d3
          go_wp2_with (at_builtin; refine wpList_put tCall rfl (.tmp 52) (.tmp 63) 23 rfl 37 i0 _ 32 Tryd.underlying23 hi hz0 hz1 hz2 rfl (by decide) (fun b => w.heap.size ≤ b ∧ ¬ (lo ≤ b ∧ b < hi2)) (fun _ => False) xs ⟨0, 0, ⟨0, 0⟩⟩ _ _ rfl HO4.out _ rfl rfl (fun _ h => h.elim) (fun b hb => ⟨Nat.le_trans HG4.out.size hb, fun h => by have := HSz4.out; omega⟩) (by have := hxl.out; simp only [maxLen]; omega) (by have := hxl.out; omega) ?_; intro v6 w6 hO_ hK_; have HO6 := hide hO_; have HR6 := hide (HR4.out.only hK_ (fun b hb => by have := HlR.out; have := hb.1; omega)); have HG6 := hide (gr_only HG4.out hK_ (fun _ h => h.1)); have HK6 := hide hK_.size; clear hO_ hK_)
          go_ret
          exact ⟨_, _, rfl, by have := hxl.out; simp; omega, HO6.out.mono (fun b h => ⟨h.1.1, h.2⟩) (fun _ _ => rfl), HR6.out.up (by omega), HG6.out⟩
        · have d0 := HBl.out.cell 4
          have d1 := HBl.out.cell 5
          have d2 := HBl.out.cell 6
          have d3 := HBl.out.cell 7
          simp only [List.getElem?_toArray, List.getElem?_cons_zero, List.getElem?_cons_succ] at d0 d1 d2 d3
          go_wp2_with (at_builtin; refine wpList_put tCall rfl (.tmp 52) (.tmp 63) 23 rfl 37 i0 _ 32 Tryd.underlying23 hi hz0 hz1 hz2 rfl (by decide) (fun b => w.heap.size ≤ b ∧ ¬ (lo ≤ b ∧ b < hi2)) (fun _ => False) xs ⟨1, (-1), ⟨0, 0⟩⟩ _ _ rfl HO4.out _ rfl rfl (fun _ h => h.elim) (fun b hb => ⟨Nat.le_trans HG4.out.size hb, fun h => by have := HSz4.out; omega⟩) (by have := hxl.out; simp only [maxLen]; omega) (by have := hxl.out; omega) ?_; intro v6 w6 hO_ hK_; have HO6 := hide hO_; have HR6 := hide (HR4.out.only hK_ (fun b hb => by have := HlR.out; have := hb.1; omega)); have HG6 := hide (gr_only HG4.out hK_ (fun _ h => h.1)); have HK6 := hide hK_.size; clear hO_ hK_)
          go_ret
          exact ⟨_, _, rfl, by have := hxl.out; simp; omega, HO6.out.mono (fun b h => ⟨h.1.1, h.2⟩) (fun _ _ => rfl), HR6.out.up (by omega), HG6.out⟩
        · have d0 := HBl.out.cell 8
          have d1 := HBl.out.cell 9
          have d2 := HBl.out.cell 10
          have d3 := HBl.out.cell 11
          simp only [List.getElem?_toArray, List.getElem?_cons_zero, List.getElem?_cons_succ] at d0 d1 d2 d3
          go_wp2_with (at_builtin; refine wpList_put tCall rfl (.tmp 52) (.tmp 63) 23 rfl 37 i0 _ 32 Tryd.underlying23 hi hz0 hz1 hz2 rfl (by decide) (fun b => w.heap.size ≤ b ∧ ¬ (lo ≤ b ∧ b < hi2)) (fun _ => False) xs ⟨2, 100, ⟨0, 0⟩⟩ _ _ rfl HO4.out _ rfl rfl (fun _ h => h.elim) (fun b hb => ⟨Nat.le_trans HG4.out.size hb, fun h => by have := HSz4.out; omega⟩) (by have := hxl.out; simp only [maxLen]; omega) (by have := hxl.out; omega) ?_; intro v6 w6 hO_ hK_; have HO6 := hide hO_; have HR6 := hide (HR4.out.only hK_ (fun b hb => by have := HlR.out; have := hb.1; omega)); have HG6 := hide (gr_only HG4.out hK_ (fun _ h => h.1)); have HK6 := hide hK_.size; clear hO_ hK_)
          go_ret
          exact ⟨_, _, rfl, by have := hxl.out; simp; omega, HO6.out.mono (fun b h => ⟨h.1.1, h.2⟩) (fun _ _ => rfl), HR6.out.up (by omega), HG6.out⟩
        · have d0 := HBl.out.cell 12
          have d1 := HBl.out.cell 13
          have d2 := HBl.out.cell 14
          have d3 := HBl.out.cell 15
          simp only [List.getElem?_toArray, List.getElem?_cons_zero, List.getElem?_cons_succ] at d0 d1 d2 d3
          go_wp2_with (at_builtin; refine wpList_put tCall rfl (.tmp 52) (.tmp 63) 23 rfl 37 i0 _ 32 Tryd.underlying23 hi hz0 hz1 hz2 rfl (by decide) (fun b => w.heap.size ≤ b ∧ ¬ (lo ≤ b ∧ b < hi2)) (fun _ => False) xs ⟨1, 0, ⟨2, 1⟩⟩ _ _ rfl HO4.out _ rfl rfl (fun _ h => h.elim) (fun b hb => ⟨Nat.le_trans HG4.out.size hb, fun h => by have := HSz4.out; omega⟩) (by have := hxl.out; simp only [maxLen]; omega) (by have := hxl.out; omega) ?_; intro v6 w6 hO_ hK_; have HO6 := hide hO_; have HR6 := hide (HR4.out.only hK_ (fun b hb => by have := HlR.out; have := hb.1; omega)); have HG6 := hide (gr_only HG4.out hK_ (fun _ h => h.1)); have HK6 := hide hK_.size; clear hO_ hK_)
          go_ret
          exact ⟨_, _, rfl, by have := hxl.out; simp; omega, HO6.out.mono (fun b h => ⟨h.1.1, h.2⟩) (fun _ _ => rfl), HR6.out.up (by omega), HG6.out⟩

end Go.Proofs.YtpcghfeiehdapaaDoor
