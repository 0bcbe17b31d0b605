/- l20Schedule: some schedule. -/
import Derived.Test.YtaaagoppecnmmaaDoorDrOrd
import Derived.Test.YtaaagoppecnmmaaDoorSnapH
import Derived.Deep.RegionLaw
namespace Go.Proofs.YtaaagoppecnmmaaDoor
open Go.RowKit
set_option linter.unusedVariables false
set_option linter.unusedSimpArgs false

theorem snapRR_len24 (xs : List Txn) : (snapRR xs).length ≤ 100 := by
  unfold snapRR snapFst
  split
  · rename_i hc
    simp only [Bool.and_eq_true, decide_eq_true_eq] at hc
    cases hd : dfsN xs (2 * (doneL xs).length) [] SS0 with
    | none => simp
    | some o =>
      have := dfsN_len _ _ _ _ _ hd
      simp at this ⊢
      omega
  · simp
theorem row_two {w : World} (x : Int) : RowAny tInt (w.alloc (.cells #[.int .i64 x, .int .i64 x] 3)) (fun _ => False) (some ⟨w.heap.size, 0, none⟩) [x, x] := fun _ => ⟨_, 0, rfl, fun k hk => by
  have hk2 : k < 2 := by simpa using hk
  refine ⟨_, rfl, fun j u hu => ?_⟩
  rw [(Blk.new w _ _).cell]
  match k, hk2 with
  | 0, _ =>
    match j, hu with
    | 0, hu => exact hu
    | j + 1, hu => simp at hu
  | 1, _ =>
    match j, hu with
    | 0, hu => exact hu
    | j + 1, hu => simp at hu⟩
set_option maxRecDepth 10000 in
set_option maxHeartbeats 8000000 in
theorem schedule_any (w : World) (R P : Nat) (xs : List Txn) (A : Option Addr) (c : Nat) (h : Rd w R P) (hP : P ≤ 5000) (hx : HistS xs) (hA : Row tTxn w (fun b => R < b ∧ Old w b) A xs) :
    Calls Tryd.prog 78 #[.pointer (some ⟨R, 0, none⟩), .slice A xs.length c] w (DrawnI w R (P + 6)) := by
  obtain ⟨i0, hi, hz0, hz1, hz2⟩ := info_parts infoInt_
  obtain ⟨hxm, hx20, hxo, hxn⟩ := hx.le
  have HlR := hide h.lt
  have HP := hide hP
  have HR0 := hide h
  have HA := hide hA
  have HD0 := hide (doneR_len xs (by have := hx.1; omega))
  have HF := hide (specFindSnapshot xs A c w hxm hxo (hA.mono (fun b hb => hb.2) (fun _ _ => rfl)))
  have HFl := hide (snapRR_len24 xs)
  clear h hP hA
  go_enter Tryd.func78, Tryd.ntmps78
  go_wp2_with fail
  refine HF.out.mono ?_
  rintro e w1 ⟨v1, rfl, hS1, hb1⟩
  obtain ⟨A1, c1, rfl, hle1, hcm1, hr1⟩ := hS1
  have HY1 := hide (show Row tInt w1 (fun b => w.heap.size ≤ b ∧ Old w1 b) A1 _ from hr1)
  have HR1 := hide (HR0.out.below hb1)
  have HG1 := hide (Gr.of_below hb1 (R := R))
  have HA1 := hide (HA.out.mono (w' := w1) (S' := fun b => R < b ∧ b < w1.heap.size) (fun b hb => ⟨hb.1, Nat.lt_of_lt_of_le hb.2 hb1.size⟩) (fun b hb => hb1.block b hb.2))
  clear hr1 hb1 HR0 HA HF
  cases hff : snapB xs
  focus
    clear HFl HY1 hff hle1 hcm1
    obtain ⟨w2, hw2⟩ : ∃ w2, w2 = w1 := ⟨_, rfl⟩
    rw [← hw2] at HR1 HG1 HA1 ⊢
    have HR2 := hide (HR1.out.up (Q := P + 1) (by omega))
    have HG2 := hide HG1.out
    have HA2 := hide HA1.out
    have HZ := hide (Nat.le_refl 0)
    clear HR1 HG1 HA1 hw2
  rotate_left
  focus
    go_wp2_with fail
    refine (pick_any _ R _ 4 HR1.out (by have := HP.out; omega)).mono ?_
    rintro e w2 ⟨z2, rfl, _, _, hr2, hg2⟩
    have HY2 := hide (HY1.out.mono (w' := w2) (S' := fun b => w.heap.size ≤ b ∧ Old w2 b) (fun b hb => ⟨hb.1, Nat.lt_of_lt_of_le hb.2 hg2.size⟩) (fun b hb => hg2.block b hb.2 (fun e => by injection e with e; have := HlR.out; have := hb.1; omega)))
    have HA2 := hide (HA1.out.mono (w' := w2) (S' := fun b => R < b ∧ b < w2.heap.size) (fun b hb => ⟨hb.1, Nat.lt_of_lt_of_le hb.2 hg2.size⟩) (fun b hb => hg2.block b hb.2 (fun e => by injection e with e; have := hb.1; omega)))
    have HR2 := hide hr2
    have HG2 := hide (gr_trans HG1.out hg2)
    clear hr2 hg2 HY1 HA1 HR1 HG1 hff
    by_cases h2 : z2 = 0
    focus
      have h2' : (z2 == 0) = true := by simp [h2]
      clear h2 HFl HY2 hle1 hcm1
      have HZ := hide (Nat.le_refl 0)
    rotate_left
    focus
      have h2' : (z2 == 0) = false := by simp [h2]
      clear h2
      obtain ⟨wA, hwA⟩ : ∃ wA, wA = w2 := ⟨_, rfl⟩
      rw [← hwA] at HY2 HR2 HG2 ⊢
      have HY := hide HY2.out
      have HRA := hide HR2.out
      have HGA := hide HG2.out
      have hyl := HFl.out
      generalize snapRR xs = ys at HY hyl hle1 ⊢
      obtain ⟨A5, hA5⟩ : ∃ A5, A5 = A1 := ⟨_, rfl⟩
      obtain ⟨c5, hc5⟩ : ∃ c5, c5 = c1 := ⟨_, rfl⟩
      rw [← hA5] at HY ⊢
      rw [← hc5]
      clear HY2 HR2 HG2 HA2 hwA hA5 hc5 hle1 hcm1 HFl
      all_goals
        have HOe := hide (Own.empty (T := tInt) (e := 3) wA (fun b => w.heap.size ≤ b) HGA.out.size)
        have HRy := hide ((HY.out.mono (w' := wA.alloc (.cells #[] 3)) (S' := fun b => w.heap.size ≤ b ∧ Old wA b) (fun _ h => h) (fun b hb => Below.heap_alloc _ _ _ hb.2)).anyInt)
        go_upto_region 10 with (at_builtin; refine wpList_cat tInt rfl (.tmp 43) (.tmp 44) 30 rfl 3 i0 _ 8 Tryd.underlying30 hi hz0 hz1 hz2 rfl (by decide) (fun b => w.heap.size ≤ b) (fun _ => False) [] ys _ rfl HOe.out A5 _ c5 rfl rfl HRy.out (fun _ h => h.elim) (fun b hb => Nat.le_trans HGA.out.size (Nat.le_trans (by simp) hb)) (by skip; simp only [maxLen, List.length_nil]; omega) (by skip; simp only [List.length_nil]; omega) ?_; intro v8 w8 hO_ hK_; have HO8 := hide (show Own tInt 3 w8 (fun b => w.heap.size ≤ b ∧ Old w8 b) ys v8 by simpa using hO_); have HR8 := hide ((HRA.out.alloc (.cells #[] 3)).only hK_ (fun b hb => Nat.lt_of_lt_of_le HlR.out hb)); have HG8 := hide (gr_only (gr_alloc HGA.out (.cells #[] 3)) hK_ (fun b hb => hb)); obtain ⟨A8, c8, hv8⟩ : ∃ A c, v8 = .slice A ys.length c := (by obtain ⟨A, c, h, _⟩ := HO8.out.sl; exact ⟨A, c, h⟩); obtain ⟨n8, hn8⟩ : ∃ n8, n8 = ys.length := ⟨_, rfl⟩; rw [← hn8] at hv8; subst hv8; have HN8 := hide hn8; have hn8l : n8 ≤ 100 := (by omega); clear hO_ hK_ hn8)
        clear HOe HRy HRA HGA HY
        clear hyl
        by_cases h1 : (1 : Int) < n8
        focus
          obtain ⟨g, cg, hge, hgS⟩ := HO8.out.form (by have := HN8.out; omega)
          rw [← HN8.out] at hge
          injection hge with hge1 _ hge2
          subst hge1
          subst hge2
          have hgw := hgS.1
          clear hgS
          go_wp2_with fail
          refine (pick_any _ R _ 2 HR8.out (by have := HP.out; omega)).mono ?_
          rintro e w9 ⟨z9, rfl, _, _, hr9, hg9⟩
          have HR9 := hide hr9
          have HG9 := hide (gr_trans HG8.out hg9)
          have HO9 := hide (Own.onlyGr HO8.out hg9 (by have := HlR.out; omega))
          clear hr9 hg9 HR8 HG8 HO8
          by_cases h9 : z9 = 0
          focus
            have h9' : (z9 == 0) = true := by simp [h9]
            clear h9
            go_wp2_with fail
            refine (pick_any _ R _ _ HR9.out (by have := HP.out; omega)).mono ?_
            rintro e wB ⟨q3, rfl, a3, b3, hrB, hgB⟩
            have hb3 := b3 (by omega)
            obtain ⟨q, rfl⟩ : ∃ n : Nat, q3 = (n : Int) := ⟨q3.toNat, by omega⟩
            have hq0 : q < ys.length := by have := HN8.out; omega
            have hq1 : q + 1 < ys.length := by have := HN8.out; omega
            have HOB := hide (Own.onlyGr HO9.out hgB (by have := HlR.out; omega))
            have HGB := hide (gr_trans HG9.out hgB)
            have HRB := hide hrB
            have k0 := (HOB.out.cellInt hq0).1
            have k1 := (HOB.out.cellInt hq1).1
            have f0 := (HOB.out.cellInt hq0).2
            have f1 := (HOB.out.cellInt hq1).2
            generalize ys[q] = a0 at k0
            generalize ys[q + 1] = a1 at k1
            have HOC := hide ((HOB.out.setInt hq0 a1).setInt (k := q + 1) (by rw [List.length_set]; exact hq1) a0)
            have HGC := hide (gr_setCell (gr_setCell HGB.out (p := ⟨g, q, none⟩) (.inr hgw) (.int .i64 a1)) (p := ⟨g, q + 1, none⟩) (.inr hgw) (.int .i64 a0))
            have HRC := hide ((HRB.out.far (p := ⟨g, q, none⟩) (by have := HlR.out; show R < g; omega) (.int .i64 a1)).far (p := ⟨g, q + 1, none⟩) (by have := HlR.out; show R < g; omega) (.int .i64 a0))
            have hql : (q : Int) + 1 < n8 := by omega
            have hql2 : (q : Int) < n8 := by omega
            clear b3 hb3 hrB hgB HO9 HR9 HG9 HGB HRB
            go_wp2_with fail
            refine (odd_any _ R _ 9 HRC.out (by have := HP.out; omega) (by decide)).mono ?_
            rintro e wD ⟨vD, rfl, hrD, hgD⟩
            have HRD := hide (hrD.up (Q := P + 5) (by omega))
            have HGD := hide (gr_trans HGC.out hgD)
            have HOD := hide (show Own tInt 3 wD (fun b => w.heap.size ≤ b ∧ Old wD b) ((ys.set q a1).set (q + 1) a0) (.slice (some ⟨g, 0, none⟩) n8 c8) from
              HOC.out.mono (fun b hb => ⟨hb.1, by have h1 := hb.2; have h2 := hgD.size; simp [World.setCell] at h2; unfold Old at h1 ⊢; omega⟩) (fun b hb => hgD.block b (by have h1 := hb.2; simp [World.setCell]; exact h1) (fun e => by injection e with e; have := HlR.out; have := hb.1; omega)))
            have HZl := hide (show ((ys.set q a1).set (q + 1) a0).length = n8 by rw [List.length_set, List.length_set]; exact HN8.out.symm)
            generalize (ys.set q a1).set (q + 1) a0 = zs at HOD HZl
            clear hrD hgD HOB HOC HGC HRC k0 k1 f0 f1 hq0 hq1
          rotate_left
          focus
            have h9' : (z9 == 0) = false := by simp [h9]
            clear h9
            go_wp2_with fail
            refine (odd_any _ R _ 9 HR9.out (by have := HP.out; omega) (by decide)).mono ?_
            rintro e wD ⟨vD, rfl, hrD, hgD⟩
            have HRD := hide (hrD.up (Q := P + 5) (by omega))
            have HGD := hide (gr_trans HG9.out hgD)
            have HOD := hide (Own.onlyGr HO9.out hgD (by have := HlR.out; omega))
            obtain ⟨zs, hzs⟩ : ∃ zs, zs = ys := ⟨_, rfl⟩
            have HOD := hide (show Own tInt 3 wD (fun b => w.heap.size ≤ b ∧ Old wD b) zs (.slice (some ⟨g, 0, none⟩) n8 c8) by rw [hzs]; exact HOD.out)
            have HZl := hide (show zs.length = n8 by rw [hzs]; exact HN8.out.symm)
            clear hrD hgD HR9 HG9 HO9 hzs
        rotate_left 2
        focus
          go_wp2_with fail
          refine (odd_any _ R _ 9 HR8.out (by have := HP.out; omega) (by decide)).mono ?_
          rintro e wD ⟨vD, rfl, hrD, hgD⟩
          have HRD := hide (hrD.up (Q := P + 5) (by omega))
          have HGD := hide (gr_trans HG8.out hgD)
          have HOD := hide (Own.onlyGr HO8.out hgD (by have := HlR.out; omega))
          obtain ⟨zs, hzs⟩ : ∃ zs, zs = ys := ⟨_, rfl⟩
          have HOD := hide (show Own tInt 3 wD (fun b => w.heap.size ≤ b ∧ Old wD b) zs (.slice A8 n8 c8) by rw [hzs]; exact HOD.out)
          have HZl := hide (show zs.length = n8 by rw [hzs]; exact HN8.out.symm)
          clear hrD hgD HR8 HG8 HO8 hzs
        all_goals
          cases vD with
          | false =>
            go_wp2_with fail
            go_ret
            exact ⟨zs, _, rfl, by have := HZl.out; omega, HOD.out.sl.mono (fun b hb => hb) (fun _ _ => rfl), HRD.out.up (by omega), HGD.out⟩
          | true =>
            go_wp2_with fail
            refine (pick_any _ R _ 4 HRD.out (by have := HP.out; omega)).mono ?_
            rintro e wE ⟨y, rfl, _, _, hrE, hgE⟩
            have HRE := hide hrE
            have HGE := hide (gr_trans HGD.out hgE)
            have HOE := hide (Own.onlyGr HOD.out hgE (by have := HlR.out; omega))
            clear hrE hgE HRD HGD HOD
            go_wp2_with (at_builtin; refine wpList_put tInt rfl (.tmp 78) (.tmp 81) 30 rfl 3 i0 _ 8 Tryd.underlying30 hi hz0 hz1 hz2 rfl (by decide) (fun b => w.heap.size ≤ b) (fun _ => False) zs y [.int .i64 y] _ rfl HOE.out _ rfl rfl (fun _ h => h.elim) (fun b hb => Nat.le_trans HGE.out.size hb) (by have := HZl.out; simp only [maxLen]; omega) (by have := HZl.out; omega) ?_; intro vF wF hO_ hK_; have HOF := hide hO_; have HRF := hide (HRE.out.only hK_ (fun b hb => Nat.lt_of_lt_of_le HlR.out hb)); have HGF := hide (gr_only HGE.out hK_ (fun b hb => hb)); clear hO_ hK_)
            go_ret
            exact ⟨zs ++ [y], vF, rfl, by have := HZl.out; simp; omega, HOF.out.sl.mono (fun b hb => hb) (fun _ _ => rfl), HRF.out.up (by omega), HGF.out⟩
  all_goals
    have HOe := hide (Own.empty (T := tInt) (e := 3) w2 (fun b => b = w2.heap.size) rfl)
    have HA3 := hide (HA2.out.mono (w' := w2.alloc (.cells #[] 3)) (S' := Old (w2.alloc (.cells #[] 3))) (fun b hb => Nat.lt_of_lt_of_le hb.2 (by simp)) (fun b hb => Below.heap_alloc _ _ _ hb.2))
    have HR3 := hide (HR2.out.alloc (.cells #[] 3))
    have HG3 := hide (gr_alloc HG2.out (.cells #[] 3))
    have HZ2 := hide (show w2.heap.size < (w2.alloc (.cells #[] 3)).heap.size by simp)
    have HGW := hide HG2.out.size
    clear HA2 HR2 HG2
    go_upto_region 4 with (fail)
    go_wp2_with fail
    refine (specDoneTxns xs A c _ hxm hxo HA3.out).mono ?_
    rintro e w3 ⟨v3, rfl, hO3, hb3⟩
    obtain ⟨A3, c3, rfl, hle3, hcm3, hr3⟩ := hO3.sl.fresh
    have HL3 := hide (show Row tInt w3 (fun b => w2.heap.size < b ∧ b < w3.heap.size) A3 (doneR xs) from by
      obtain ⟨A', c', hv', _, _, hr'⟩ := hO3.sl
      injection hv' with hv1 _ _
      subst hv1
      exact hr'.mono (fun b hb => ⟨Nat.lt_of_lt_of_le HZ2.out hb.1, hb.2⟩) (fun _ _ => rfl))
    have HO3 := hide (Own.onlyBelow HOe.out hb3)
    have HR4 := hide (HR3.out.below hb3)
    have HG4 := hide (gr_below HG3.out hb3)
    have hnl : (doneR xs).length ≤ 20 := HD0.out
    have HW2 := hide (show w2.heap.size < w3.heap.size from Nat.lt_of_lt_of_le HZ2.out hb3.size)
    generalize doneR xs = ls at HL3 hnl hle3 ⊢
    clear hr3 hO3 hb3 HOe HA3 HR3 HG3 HZ2 HZ
    have HKR := hide (show R < w.heap.size ∧ w.heap.size ≤ w2.heap.size ∧ w2.heap.size < w3.heap.size from ⟨HlR.out, HGW.out, HW2.out⟩)
    have HO3 := hide (show Own tInt 3 w3 (fun b => (b = w2.heap.size ∨ w3.heap.size ≤ b) ∧ Old w3 b) [] (.slice (some ⟨w2.heap.size, 0, none⟩) 0 0) from HO3.out.mono (fun b hb => ⟨.inl hb.1, hb.2⟩) (fun _ _ => rfl))
    have HN3 := hide (show Only (fun b => b = w2.heap.size ∨ w3.heap.size ≤ b) w3 w3 from ⟨rfl, rfl, rfl, Nat.le_refl _, fun _ _ _ => rfl⟩)
    go_wp2_with fail
    go_loopw [5, 8] (fun v k wr => ∃ (kk : Nat) (zs : List Int) (vo : Value), vo = v ∧ kk ≤ ls.length ∧ k = .int .i64 kk ∧ Hid (zs.length ≤ 2 * kk) ∧ Hid (Own tInt 3 wr (fun b => (b = w2.heap.size ∨ w3.heap.size ≤ b) ∧ Old wr b) zs v) ∧ Hid (Only (fun b => b = w2.heap.size ∨ w3.heap.size ≤ b) w3 wr)) (fun _ k _ => ls.length - (intOf k).toNat)
    case atStart => exact ⟨0, [], _, rfl, Nat.zero_le _, rfl, Nat.zero_le _, HO3.out, HN3.out⟩
    case round =>
      obtain ⟨kk, zs, vo, rfl, hkk, rfl, hzl, hO, hN⟩ := hrel
      clear HO3 HN3
      by_cases hlt : kk < ls.length
      · have HLk := hide (HL3.out.mono (w' := wr) (fun _ h => h) (fun b hb => hN.out.block b hb.2 (fun e => by have := hb.1; have := hb.2; omega)))
        obtain ⟨b, off, hAe, hbS, hrow⟩ := HLk.out (by omega)
        subst hAe
        obtain ⟨cs, hrr, hcs⟩ := hrow kk hlt
        obtain rfl : cs = [.int .i64 ls[kk]] := hrr
        have c0 : wr.cell? ⟨b, off + kk, none⟩ = some (.int .i64 ls[kk]) := by simpa [tInt, flat] using hcs 0 _ rfl
        generalize ls[kk] = x at c0
        have hki : (kk : Int) < (ls.length : Int) := by omega
        have HOw := hide hO.out
        have HNw := hide hN.out
        have HZw := hide hzl.out
        clear hO hN hzl hrow hcs hbS HLk
        have HOk := hide (show Own tInt 3 (wr.drew.alloc (.cells #[.int .i64 x, .int .i64 x] 3)) (fun b => (b = w2.heap.size ∨ w3.heap.size ≤ b) ∧ Old (wr.drew.alloc (.cells #[.int .i64 x, .int .i64 x] 3)) b) zs vo from HOw.out.mono (fun b hb => ⟨hb.1, Nat.lt_of_lt_of_le hb.2 (by rw [World.size_alloc]; exact Nat.le_succ _)⟩) (fun b hb => Below.heap_alloc wr.drew _ _ hb.2))
        have HNd := hide (show Only (fun b => b = w2.heap.size ∨ w3.heap.size ≤ b) w3 (wr.drew.alloc (.cells #[.int .i64 x, .int .i64 x] 3)) from (HNw.out.drewN 1).trans (Only.of_alloc _ _))
        have HRt := hide (show RowAny tInt (wr.drew.alloc (.cells #[.int .i64 x, .int .i64 x] 3)) (fun _ => False) (some ⟨wr.heap.size, 0, none⟩) [x, x] from row_two (w := wr.drew) x)
        clear HOw HNw
        obtain ⟨Av, cv, hve, _⟩ : ∃ A c, vo = .slice A zs.length c ∧ True := by obtain ⟨A, c, h, _⟩ := HOk.out.sl; exact ⟨A, c, h, trivial⟩
        obtain ⟨nz, hnz⟩ : ∃ n, n = zs.length := ⟨_, rfl⟩
        rw [← hnz] at hve
        subst hve
        clear hnz
        go_wp2_with fail
        go_region_law (refine wp_cat tInt (.tmp 32) (.tmp 41) 30 rfl 3 i0 _ 8 Tryd.underlying30 hi hz0 hz1 hz2 rfl (by decide) (fun b => b = w2.heap.size ∨ w3.heap.size ≤ b) (fun _ => False) zs [x, x] _ (by simp [Act.eval, Act.put]) HOk.out _ 2 2 (by simp [Act.eval, Act.put]) rfl HRt.out (fun _ h => h.elim) (fun b hb => .inr (Nat.le_trans HNd.out.size hb)) (by have := HZw.out; simp only [maxLen, List.length_cons, List.length_nil]; omega) (by have := HZw.out; simp only [List.length_cons, List.length_nil]; omega) ?_; intro v8 w8 hO_ hK_; have HO8 := hide hO_; have HN8 := hide (HNd.out.trans hK_); clear hO_ hK_)
        all_goals
          go_wp2_with fail
          go_roundw
          case rel => exact ⟨kk + 1, zs ++ [x, x], _, rfl, by omega, by go_num, by have := HZw.out; show _ ≤ _; simp; omega, HO8.out, HN8.out⟩
          case measure => simp [intOf]; omega
      · obtain rfl : kk = ls.length := by omega
        obtain ⟨wA, hwA⟩ : ∃ wA, wA = wr := ⟨_, rfl⟩
        rw [← hwA] at hO hN ⊢
        obtain ⟨A5, c5, hv5, hle5, hcm5, hr5⟩ := hO.out.sl
        have HY := hide (show Row tInt wA (fun b => w.heap.size ≤ b ∧ Old wA b) A5 zs from hr5.mono (fun b hb => ⟨by have := HKR.out; rcases hb.1 with h | h <;> omega, hb.2⟩) (fun _ _ => rfl))
        have HRA := hide (HR4.out.only hN.out (fun b hb => by have := HKR.out; rcases hb with h | h <;> omega))
        have HGA := hide (gr_only HG4.out hN.out (fun b hb => by have := HKR.out; rcases hb with h | h <;> omega))
        have hyl : zs.length ≤ 100 := by have := hzl.out; omega
        subst hv5
        obtain ⟨ys, hys⟩ : ∃ ys, ys = zs := ⟨_, rfl⟩
        rw [← hys] at HY hyl hle5 ⊢
        clear hO hN hzl hr5 hys hwA HL3 HR4 HG4 hle3 hcm3
        all_goals
          have HOe := hide (Own.empty (T := tInt) (e := 3) wA (fun b => w.heap.size ≤ b) HGA.out.size)
          have HRy := hide ((HY.out.mono (w' := wA.alloc (.cells #[] 3)) (S' := fun b => w.heap.size ≤ b ∧ Old wA b) (fun _ h => h) (fun b hb => Below.heap_alloc _ _ _ hb.2)).anyInt)
          go_upto_region 10 with (at_builtin; refine wpList_cat tInt rfl (.tmp 43) (.tmp 44) 30 rfl 3 i0 _ 8 Tryd.underlying30 hi hz0 hz1 hz2 rfl (by decide) (fun b => w.heap.size ≤ b) (fun _ => False) [] ys _ rfl HOe.out A5 _ c5 rfl rfl HRy.out (fun _ h => h.elim) (fun b hb => Nat.le_trans HGA.out.size (Nat.le_trans (by simp) hb)) (by skip; simp only [maxLen, List.length_nil]; omega) (by skip; simp only [List.length_nil]; omega) ?_; intro v8 w8 hO_ hK_; have HO8 := hide (show Own tInt 3 w8 (fun b => w.heap.size ≤ b ∧ Old w8 b) ys v8 by simpa using hO_); have HR8 := hide ((HRA.out.alloc (.cells #[] 3)).only hK_ (fun b hb => Nat.lt_of_lt_of_le HlR.out hb)); have HG8 := hide (gr_only (gr_alloc HGA.out (.cells #[] 3)) hK_ (fun b hb => hb)); obtain ⟨A8, c8, hv8⟩ : ∃ A c, v8 = .slice A ys.length c := (by obtain ⟨A, c, h, _⟩ := HO8.out.sl; exact ⟨A, c, h⟩); obtain ⟨n8, hn8⟩ : ∃ n8, n8 = ys.length := ⟨_, rfl⟩; rw [← hn8] at hv8; subst hv8; have HN8 := hide hn8; have hn8l : n8 ≤ 100 := (by omega); clear hO_ hK_ hn8)
          clear HOe HRy HRA HGA HY
          clear hyl
          by_cases h1 : (1 : Int) < n8
          focus
            obtain ⟨g, cg, hge, hgS⟩ := HO8.out.form (by have := HN8.out; omega)
            rw [← HN8.out] at hge
            injection hge with hge1 _ hge2
            subst hge1
            subst hge2
            have hgw := hgS.1
            clear hgS
            go_wp2_with fail
            refine (pick_any _ R _ 2 HR8.out (by have := HP.out; omega)).mono ?_
            rintro e w9 ⟨z9, rfl, _, _, hr9, hg9⟩
            have HR9 := hide hr9
            have HG9 := hide (gr_trans HG8.out hg9)
            have HO9 := hide (Own.onlyGr HO8.out hg9 (by have := HlR.out; omega))
            clear hr9 hg9 HR8 HG8 HO8
            by_cases h9 : z9 = 0
            focus
              have h9' : (z9 == 0) = true := by simp [h9]
              clear h9
              go_wp2_with fail
              refine (pick_any _ R _ _ HR9.out (by have := HP.out; omega)).mono ?_
              rintro e wB ⟨q3, rfl, a3, b3, hrB, hgB⟩
              have hb3 := b3 (by omega)
              obtain ⟨q, rfl⟩ : ∃ n : Nat, q3 = (n : Int) := ⟨q3.toNat, by omega⟩
              have hq0 : q < ys.length := by have := HN8.out; omega
              have hq1 : q + 1 < ys.length := by have := HN8.out; omega
              have HOB := hide (Own.onlyGr HO9.out hgB (by have := HlR.out; omega))
              have HGB := hide (gr_trans HG9.out hgB)
              have HRB := hide hrB
              have k0 := (HOB.out.cellInt hq0).1
              have k1 := (HOB.out.cellInt hq1).1
              have f0 := (HOB.out.cellInt hq0).2
              have f1 := (HOB.out.cellInt hq1).2
              generalize ys[q] = a0 at k0
              generalize ys[q + 1] = a1 at k1
              have HOC := hide ((HOB.out.setInt hq0 a1).setInt (k := q + 1) (by rw [List.length_set]; exact hq1) a0)
              have HGC := hide (gr_setCell (gr_setCell HGB.out (p := ⟨g, q, none⟩) (.inr hgw) (.int .i64 a1)) (p := ⟨g, q + 1, none⟩) (.inr hgw) (.int .i64 a0))
              have HRC := hide ((HRB.out.far (p := ⟨g, q, none⟩) (by have := HlR.out; show R < g; omega) (.int .i64 a1)).far (p := ⟨g, q + 1, none⟩) (by have := HlR.out; show R < g; omega) (.int .i64 a0))
              have hql : (q : Int) + 1 < n8 := by omega
              have hql2 : (q : Int) < n8 := by omega
              clear b3 hb3 hrB hgB HO9 HR9 HG9 HGB HRB
              go_wp2_with fail
              refine (odd_any _ R _ 9 HRC.out (by have := HP.out; omega) (by decide)).mono ?_
              rintro e wD ⟨vD, rfl, hrD, hgD⟩
              have HRD := hide (hrD.up (Q := P + 5) (by omega))
              have HGD := hide (gr_trans HGC.out hgD)
              have HOD := hide (show Own tInt 3 wD (fun b => w.heap.size ≤ b ∧ Old wD b) ((ys.set q a1).set (q + 1) a0) (.slice (some ⟨g, 0, none⟩) n8 c8) from
                HOC.out.mono (fun b hb => ⟨hb.1, by have h1 := hb.2; have h2 := hgD.size; simp [World.setCell] at h2; unfold Old at h1 ⊢; omega⟩) (fun b hb => hgD.block b (by have h1 := hb.2; simp [World.setCell]; exact h1) (fun e => by injection e with e; have := HlR.out; have := hb.1; omega)))
              have HZl := hide (show ((ys.set q a1).set (q + 1) a0).length = n8 by rw [List.length_set, List.length_set]; exact HN8.out.symm)
              generalize (ys.set q a1).set (q + 1) a0 = zs at HOD HZl
              clear hrD hgD HOB HOC HGC HRC k0 k1 f0 f1 hq0 hq1
            rotate_left
            focus
              have h9' : (z9 == 0) = false := by simp [h9]
              clear h9
              go_wp2_with fail
              refine (odd_any _ R _ 9 HR9.out (by have := HP.out; omega) (by decide)).mono ?_
              rintro e wD ⟨vD, rfl, hrD, hgD⟩
              have HRD := hide (hrD.up (Q := P + 5) (by omega))
              have HGD := hide (gr_trans HG9.out hgD)
              have HOD := hide (Own.onlyGr HO9.out hgD (by have := HlR.out; omega))
              obtain ⟨zs, hzs⟩ : ∃ zs, zs = ys := ⟨_, rfl⟩
              have HOD := hide (show Own tInt 3 wD (fun b => w.heap.size ≤ b ∧ Old wD b) zs (.slice (some ⟨g, 0, none⟩) n8 c8) by rw [hzs]; exact HOD.out)
              have HZl := hide (show zs.length = n8 by rw [hzs]; exact HN8.out.symm)
              clear hrD hgD HR9 HG9 HO9 hzs
          rotate_left 2
          focus
            go_wp2_with fail
            refine (odd_any _ R _ 9 HR8.out (by have := HP.out; omega) (by decide)).mono ?_
            rintro e wD ⟨vD, rfl, hrD, hgD⟩
            have HRD := hide (hrD.up (Q := P + 5) (by omega))
            have HGD := hide (gr_trans HG8.out hgD)
            have HOD := hide (Own.onlyGr HO8.out hgD (by have := HlR.out; omega))
            obtain ⟨zs, hzs⟩ : ∃ zs, zs = ys := ⟨_, rfl⟩
            have HOD := hide (show Own tInt 3 wD (fun b => w.heap.size ≤ b ∧ Old wD b) zs (.slice A8 n8 c8) by rw [hzs]; exact HOD.out)
            have HZl := hide (show zs.length = n8 by rw [hzs]; exact HN8.out.symm)
            clear hrD hgD HR8 HG8 HO8 hzs
          all_goals
            cases vD with
            | false =>
              go_wp2_with fail
              go_ret
              exact ⟨zs, _, rfl, by have := HZl.out; omega, HOD.out.sl.mono (fun b hb => hb) (fun _ _ => rfl), HRD.out.up (by omega), HGD.out⟩
            | true =>
              go_wp2_with fail
              refine (pick_any _ R _ 4 HRD.out (by have := HP.out; omega)).mono ?_
              rintro e wE ⟨y, rfl, _, _, hrE, hgE⟩
              have HRE := hide hrE
              have HGE := hide (gr_trans HGD.out hgE)
              have HOE := hide (Own.onlyGr HOD.out hgE (by have := HlR.out; omega))
              clear hrE hgE HRD HGD HOD
              go_wp2_with (at_builtin; refine wpList_put tInt rfl (.tmp 78) (.tmp 81) 30 rfl 3 i0 _ 8 Tryd.underlying30 hi hz0 hz1 hz2 rfl (by decide) (fun b => w.heap.size ≤ b) (fun _ => False) zs y [.int .i64 y] _ rfl HOE.out _ rfl rfl (fun _ h => h.elim) (fun b hb => Nat.le_trans HGE.out.size hb) (by have := HZl.out; simp only [maxLen]; omega) (by have := HZl.out; omega) ?_; intro vF wF hO_ hK_; have HOF := hide hO_; have HRF := hide (HRE.out.only hK_ (fun b hb => Nat.lt_of_lt_of_le HlR.out hb)); have HGF := hide (gr_only HGE.out hK_ (fun b hb => hb)); clear hO_ hK_)
              go_ret
              exact ⟨zs ++ [y], vF, rfl, by have := HZl.out; simp; omega, HOF.out.sl.mono (fun b hb => hb) (fun _ _ => rfl), HRF.out.up (by omega), HGF.out⟩
end Go.Proofs.YtaaagoppecnmmaaDoor
