/- l20Order: some order. DrawSerialRight: some history, and some order. DrawSerialOrders: some history, and some order. -/
import Derived.Test.YtkcobaimcfggjaaGreatDoorHKit
import Derived.Test.YtkcobaimcfggjaaGreatDoorFindF
namespace Go.Proofs.YtkcobaimcfggjaaGreatDoor
open Go.RowKit
set_option linter.unusedVariables false
set_option linter.unusedSimpArgs false

/-- Some list of numbers. -/
def DrawnI (w : World) (R P : Nat) (e : Ending) (w' : World) : Prop := ∃ (o : List Int) (v : Value), e = .returned v ∧ o.length ≤ 101 ∧ Sl tInt w' (New w w') o v ∧ Rd w' R P ∧ Gr w w' R
theorem findF_len (xs : List Txn) : ((findF xs).getD []).length ≤ 100 := by
  unfold findF
  cases hv : histV xs with
  | false => simp
  | true =>
    rw [if_pos rfl]
    cases hs : serF xs with
    | none => simp
    | some o =>
      have h1 := (firstGood_perm (doneI_nodup _ _) hs).1.length_eq
      have h2 := doneI_len xs xs.length
      have h3 := (histV_parts hv).1
      simp only [Option.getD_some]
      unfold doneL at h1
      omega
theorem doneR_len (xs : List Txn) (hx : xs.length ≤ 20) : (doneR xs).length ≤ 20 := by
  unfold doneR
  split
  · have := doneI_len xs xs.length; unfold doneL; omega
  · simp
set_option maxRecDepth 10000 in
set_option maxHeartbeats 8000000 in
theorem order_any (w : World) (R P : Nat) (xs : List Txn) (A : Option Addr) (c : Nat) (h : Rd w R P) (hP : P ≤ 5000) (hx : HistS xs) (hA : Row tTxn w (fun b => R < b ∧ Old w b) A xs) :
    Calls Tryz.prog 137 #[.pointer (some ⟨R, 0, none⟩), .slice A xs.length c] w (DrawnI w R (P + 6)) := by
  obtain ⟨i0, hi, hz0, hz1, hz2⟩ := info_parts infoInt_
  obtain ⟨hxm, hx20, hxo, hxn⟩ := hx.le
  have HlR := hide h.lt
  have HP := hide hP
  have HR0 := hide h
  have HA := hide hA
  have HD0 := hide (doneR_len xs (by have := hx.1; omega))
  have HF := hide (specFindSerial xs A c w hxm hxo (hA.mono (fun b hb => hb.2) (fun _ _ => rfl)))
  have HFl := hide (findF_len xs)
  clear h hP hA
  go_enter Tryz.func137, Tryz.ntmps137
  go_wp2_with fail
  refine HF.out.mono ?_
  rintro e w1 ⟨v1, rfl, hS1, hb1⟩
  obtain ⟨A1, c1, rfl, hle1, hcm1, hr1⟩ := hS1
  have HY1 := hide (show Row tInt w1 (fun b => w.heap.size ≤ b ∧ Old w1 b) A1 _ from hr1)
  have HR1 := hide (HR0.out.below hb1)
  have HG1 := hide (Gr.of_below hb1 (R := R))
  have HA1 := hide (HA.out.mono (w' := w1) (S' := fun b => R < b ∧ b < w1.heap.size) (fun b hb => ⟨hb.1, Nat.lt_of_lt_of_le hb.2 hb1.size⟩) (fun b hb => hb1.block b hb.2))
  clear hr1 hb1 HR0 HA HF
  cases hff : (findF xs).isSome
  focus
    clear HFl HY1
    go_wp2_with fail
    refine (specDoneTxns xs A c w1 hxm hxo (HA1.out.mono (fun b hb => hb.2) (fun _ _ => rfl))).mono ?_
    rintro e wA ⟨v5, rfl, hO5, hb5⟩
    obtain ⟨A5, c5, rfl, hle5, hcm5, hr5⟩ := hO5.sl
    have HY := hide (show Row tInt wA (fun b => w.heap.size ≤ b ∧ Old wA b) A5 (doneR xs) from hr5.mono (fun b hb => ⟨Nat.le_trans HG1.out.size hb.1, hb.2⟩) (fun _ _ => rfl))
    have HRA := hide ((HR1.out.below hb5).up (Q := P + 1) (by omega))
    have HGA := hide (gr_below HG1.out hb5)
    have hyl : (doneR xs).length ≤ 100 := by have := HD0.out; omega
    generalize doneR xs = ys at HY hyl hle5 ⊢
    clear hr5 hO5 hb5 HR1 HG1 HA1 hff hle1 hcm1
  rotate_left
  focus
    go_wp2_with fail
    refine (pick_any _ R _ 3 HR1.out (by have := HP.out; omega)).mono ?_
    rintro e w2 ⟨z2, rfl, _, _, hr2, hg2⟩
    have HY2 := hide (HY1.out.mono (w' := w2) (S' := fun b => w.heap.size ≤ b ∧ Old w2 b) (fun b hb => ⟨hb.1, Nat.lt_of_lt_of_le hb.2 hg2.size⟩) (fun b hb => hg2.block b hb.2 (fun e => by injection e with e; have := HlR.out; have := hb.1; omega)))
    have HA2 := hide (HA1.out.mono (w' := w2) (S' := fun b => R < b ∧ b < w2.heap.size) (fun b hb => ⟨hb.1, Nat.lt_of_lt_of_le hb.2 hg2.size⟩) (fun b hb => hg2.block b hb.2 (fun e => by injection e with e; have := hb.1; omega)))
    have HR2 := hide hr2
    have HG2 := hide (gr_trans HG1.out hg2)
    clear hr2 hg2 HY1 HA1 HR1 HG1 hff
    by_cases h2 : z2 = 0
    focus
      have h2' : (z2 == 0) = true := by simp [h2]
      clear h2 HFl HY2
      go_wp2_with fail
      refine (specDoneTxns xs A c w2 hxm hxo (HA2.out.mono (fun b hb => hb.2) (fun _ _ => rfl))).mono ?_
      rintro e wA ⟨v5, rfl, hO5, hb5⟩
      obtain ⟨A5, c5, rfl, hle5, hcm5, hr5⟩ := hO5.sl
      have HY := hide (show Row tInt wA (fun b => w.heap.size ≤ b ∧ Old wA b) A5 (doneR xs) from hr5.mono (fun b hb => ⟨Nat.le_trans HG2.out.size hb.1, hb.2⟩) (fun _ _ => rfl))
      have HRA := hide (HR2.out.below hb5)
      have HGA := hide (gr_below HG2.out hb5)
      have hyl : (doneR xs).length ≤ 100 := by have := HD0.out; omega
      generalize doneR xs = ys at HY hyl hle5 ⊢
      clear hr5 hO5 hb5 HR2 HG2 HA2 hle1 hcm1
    rotate_left
    focus
      have h2' : (z2 == 0) = false := by simp [h2]
      clear h2
      obtain ⟨wA, hwA⟩ : ∃ wA, wA = w2 := ⟨_, rfl⟩
      rw [← hwA] at HY2 HR2 HG2 ⊢
      have HY := hide HY2.out
      have HRA := hide HR2.out
      have HGA := hide HG2.out
      have hyl := HFl.out
      generalize (findF xs).getD [] = ys at HY hyl hle1 ⊢
      obtain ⟨A5, hA5⟩ : ∃ A5, A5 = A1 := ⟨_, rfl⟩
      obtain ⟨c5, hc5⟩ : ∃ c5, c5 = c1 := ⟨_, rfl⟩
      rw [← hA5] at HY ⊢
      rw [← hc5]
      clear HY2 HR2 HG2 HA2 hwA hA5 hc5 hle1 hcm1 HFl
  all_goals
    have HOe := hide (Own.empty (T := tInt) (e := 3) wA (fun b => w.heap.size ≤ b) HGA.out.size)
    have HRy := hide ((HY.out.mono (w' := wA.alloc (.cells #[] 3)) (S' := fun b => w.heap.size ≤ b ∧ Old wA b) (fun _ h => h) (fun b hb => Below.heap_alloc _ _ _ hb.2)).anyInt)
    go_upto_region 5 with (at_builtin; refine wpList_cat tInt rfl (.tmp 23) (.tmp 24) 30 rfl 3 i0 _ 8 Tryz.underlying30 hi hz0 hz1 hz2 rfl (by decide) (fun b => w.heap.size ≤ b) (fun _ => False) [] ys _ rfl HOe.out A5 _ c5 rfl rfl HRy.out (fun _ h => h.elim) (fun b hb => Nat.le_trans HGA.out.size (Nat.le_trans (by simp) hb)) (by skip; simp only [maxLen, List.length_nil]; omega) (by skip; simp only [List.length_nil]; omega) ?_; intro v8 w8 hO_ hK_; have HO8 := hide (show Own tInt 3 w8 (fun b => w.heap.size ≤ b ∧ Old w8 b) ys v8 by simpa using hO_); have HR8 := hide ((HRA.out.alloc (.cells #[] 3)).only hK_ (fun b hb => Nat.lt_of_lt_of_le HlR.out hb)); have HG8 := hide (gr_only (gr_alloc HGA.out (.cells #[] 3)) hK_ (fun b hb => hb)); obtain ⟨A8, c8, hv8⟩ : ∃ A c, v8 = .slice A ys.length c := (by obtain ⟨A, c, h, _⟩ := HO8.out.sl; exact ⟨A, c, h⟩); obtain ⟨n8, hn8⟩ : ∃ n8, n8 = ys.length := ⟨_, rfl⟩; rw [← hn8] at hv8; subst hv8; have HN8 := hide hn8; have hn8l : n8 ≤ 100 := (by omega); clear hO_ hK_ hn8)
    clear HOe HRy HRA HGA HY
    clear hyl
    by_cases h1 : (1 : Int) < n8
    focus
      obtain ⟨g, cg, hge, hgS⟩ := HO8.out.form (by have := HN8.out; omega)
      rw [← HN8.out] at hge
      injection hge with hge1 _ hge2
      subst hge1
      subst hge2
      have hgw := hgS.1
      clear hgS
      go_wp2_with fail
      refine (pick_any _ R _ 3 HR8.out (by have := HP.out; omega)).mono ?_
      rintro e w9 ⟨z9, rfl, _, _, hr9, hg9⟩
      have HR9 := hide hr9
      have HG9 := hide (gr_trans HG8.out hg9)
      have HO9 := hide (Own.onlyGr HO8.out hg9 (by have := HlR.out; omega))
      clear hr9 hg9 HR8 HG8 HO8
      by_cases h9 : z9 = 0
      focus
        have h9' : (z9 == 0) = true := by simp [h9]
        clear h9
        go_wp2_with fail
        refine (pick_any _ R _ _ HR9.out (by have := HP.out; omega)).mono ?_
        rintro e wB ⟨q3, rfl, a3, b3, hrB, hgB⟩
        have hb3 := b3 (by omega)
        obtain ⟨q, rfl⟩ : ∃ n : Nat, q3 = (n : Int) := ⟨q3.toNat, by omega⟩
        have hq0 : q < ys.length := by have := HN8.out; omega
        have hq1 : q + 1 < ys.length := by have := HN8.out; omega
        have HOB := hide (Own.onlyGr HO9.out hgB (by have := HlR.out; omega))
        have HGB := hide (gr_trans HG9.out hgB)
        have HRB := hide hrB
        have k0 := (HOB.out.cellInt hq0).1
        have k1 := (HOB.out.cellInt hq1).1
        have f0 := (HOB.out.cellInt hq0).2
        have f1 := (HOB.out.cellInt hq1).2
        generalize ys[q] = a0 at k0
        generalize ys[q + 1] = a1 at k1
        have HOC := hide ((HOB.out.setInt hq0 a1).setInt (k := q + 1) (by rw [List.length_set]; exact hq1) a0)
        have HGC := hide (gr_setCell (gr_setCell HGB.out (p := ⟨g, q, none⟩) (.inr hgw) (.int .i64 a1)) (p := ⟨g, q + 1, none⟩) (.inr hgw) (.int .i64 a0))
        have HRC := hide ((HRB.out.far (p := ⟨g, q, none⟩) (by have := HlR.out; show R < g; omega) (.int .i64 a1)).far (p := ⟨g, q + 1, none⟩) (by have := HlR.out; show R < g; omega) (.int .i64 a0))
        have hql : (q : Int) + 1 < n8 := by omega
        have hql2 : (q : Int) < n8 := by omega
        clear b3 hb3 hrB hgB HO9 HR9 HG9 HGB HRB
        go_wp2_with fail
        refine (odd_any _ R _ 9 HRC.out (by have := HP.out; omega) (by decide)).mono ?_
        rintro e wD ⟨vD, rfl, hrD, hgD⟩
        have HRD := hide (hrD.up (Q := P + 5) (by omega))
        have HGD := hide (gr_trans HGC.out hgD)
        have HOD := hide (show Own tInt 3 wD (fun b => w.heap.size ≤ b ∧ Old wD b) ((ys.set q a1).set (q + 1) a0) (.slice (some ⟨g, 0, none⟩) n8 c8) from
          HOC.out.mono (fun b hb => ⟨hb.1, by have h1 := hb.2; have h2 := hgD.size; simp [World.setCell] at h2; unfold Old at h1 ⊢; omega⟩) (fun b hb => hgD.block b (by have h1 := hb.2; simp [World.setCell]; exact h1) (fun e => by injection e with e; have := HlR.out; have := hb.1; omega)))
        have HZl := hide (show ((ys.set q a1).set (q + 1) a0).length = n8 by rw [List.length_set, List.length_set]; exact HN8.out.symm)
        generalize (ys.set q a1).set (q + 1) a0 = zs at HOD HZl
        clear hrD hgD HOB HOC HGC HRC k0 k1 f0 f1 hq0 hq1
      rotate_left
      focus
        have h9' : (z9 == 0) = false := by simp [h9]
        clear h9
        go_wp2_with fail
        refine (odd_any _ R _ 9 HR9.out (by have := HP.out; omega) (by decide)).mono ?_
        rintro e wD ⟨vD, rfl, hrD, hgD⟩
        have HRD := hide (hrD.up (Q := P + 5) (by omega))
        have HGD := hide (gr_trans HG9.out hgD)
        have HOD := hide (Own.onlyGr HO9.out hgD (by have := HlR.out; omega))
        obtain ⟨zs, hzs⟩ : ∃ zs, zs = ys := ⟨_, rfl⟩
        have HOD := hide (show Own tInt 3 wD (fun b => w.heap.size ≤ b ∧ Old wD b) zs (.slice (some ⟨g, 0, none⟩) n8 c8) by rw [hzs]; exact HOD.out)
        have HZl := hide (show zs.length = n8 by rw [hzs]; exact HN8.out.symm)
        clear hrD hgD HR9 HG9 HO9 hzs
    rotate_left 2
    focus
      go_wp2_with fail
      refine (odd_any _ R _ 9 HR8.out (by have := HP.out; omega) (by decide)).mono ?_
      rintro e wD ⟨vD, rfl, hrD, hgD⟩
      have HRD := hide (hrD.up (Q := P + 5) (by omega))
      have HGD := hide (gr_trans HG8.out hgD)
      have HOD := hide (Own.onlyGr HO8.out hgD (by have := HlR.out; omega))
      obtain ⟨zs, hzs⟩ : ∃ zs, zs = ys := ⟨_, rfl⟩
      have HOD := hide (show Own tInt 3 wD (fun b => w.heap.size ≤ b ∧ Old wD b) zs (.slice A8 n8 c8) by rw [hzs]; exact HOD.out)
      have HZl := hide (show zs.length = n8 by rw [hzs]; exact HN8.out.symm)
      clear hrD hgD HR8 HG8 HO8 hzs
    all_goals
      cases vD with
      | false =>
        go_wp2_with fail
        go_ret
        exact ⟨zs, _, rfl, by have := HZl.out; omega, HOD.out.sl.mono (fun b hb => hb) (fun _ _ => rfl), HRD.out.up (by omega), HGD.out⟩
      | true =>
        go_wp2_with fail
        refine (pick_any _ R _ 7 HRD.out (by have := HP.out; omega)).mono ?_
        rintro e wE ⟨y, rfl, _, _, hrE, hgE⟩
        have HRE := hide hrE
        have HGE := hide (gr_trans HGD.out hgE)
        have HOE := hide (Own.onlyGr HOD.out hgE (by have := HlR.out; omega))
        clear hrE hgE HRD HGD HOD
        go_wp2_with (at_builtin; refine wpList_put tInt rfl (.tmp 58) (.tmp 61) 30 rfl 3 i0 _ 8 Tryz.underlying30 hi hz0 hz1 hz2 rfl (by decide) (fun b => w.heap.size ≤ b) (fun _ => False) zs y [.int .i64 y] _ rfl HOE.out _ rfl rfl (fun _ h => h.elim) (fun b hb => Nat.le_trans HGE.out.size hb) (by have := HZl.out; simp only [maxLen]; omega) (by have := HZl.out; omega) ?_; intro vF wF hO_ hK_; have HOF := hide hO_; have HRF := hide (HRE.out.only hK_ (fun b hb => Nat.lt_of_lt_of_le HlR.out hb)); have HGF := hide (gr_only HGE.out hK_ (fun b hb => hb)); clear hO_ hK_)
        go_ret
        exact ⟨zs ++ [y], vF, rfl, by have := HZl.out; simp; omega, HOF.out.sl.mono (fun b hb => hb) (fun _ _ => rfl), HRF.out.up (by omega), HGF.out⟩
def DrawnHO (w : World) (e : Ending) (w' : World) : Prop := ∃ (xs : List Txn) (o : List Int) (v u : Value), e = .returned (.tuple #[v, u]) ∧ HistS xs ∧ o.length ≤ 101 ∧ Sl tTxn w' (Old w') xs v ∧ Sl tInt w' (Old w') o u ∧ Below w.heap.size w w'
set_option maxRecDepth 10000 in
set_option maxHeartbeats 2000000 in
theorem drawSerialRight (bs : List Int) (A : Option Addr) (c : Nat) (w : World) (hl : bs.length ≤ 1048576) (hc : bs.length ≤ c) (hcm : c ≤ maxLen) (hA : Row tByte w (Old w) A bs) :
    Calls Tryz.prog 74 #[.slice A bs.length c] w (DrawnHO w) := by
  have HC := hide (open_any bs A c w hl hc hcm hA)
  clear hA
  go_enter Tryz.func74, Tryz.ntmps74
  go_wp2_with fail
  refine HC.out.mono ?_
  rintro e w1 ⟨R, rfl, hR0, hr1, hb1⟩
  have HB1 := hide hb1
  have HR1 := hide hr1
  have HRw := hide hR0
  have HRl := hide hr1.lt
  clear hb1 hr1 hR0 HC
  go_wp2_with fail
  refine (history_any _ R 0 5 12 HR1.out (by omega) (by omega) (by omega) (by omega)).mono ?_
  rintro e w4 ⟨xs, v, rfl, hx, ho, hS, hr4, hg4⟩
  have HX := hide (show HistS xs from ⟨hx, ho⟩)
  have HS4 := hide hS
  have HR4 := hide hr4
  have HG4 := hide hg4
  clear hx ho hS hr4 hg4 HR1
  obtain ⟨A4, c4, rfl, h41, h42, hr4⟩ := HS4.out
  have HC := hide (order_any w4 R _ xs A4 c4 HR4.out (by omega) HX.out (hr4.mono (fun b hb => ⟨Nat.lt_of_lt_of_le HRl.out hb.1, hb.2⟩) (fun _ _ => rfl)))
  have HT4 := hide hr4
  clear hr4 HS4 HR4
  go_wp2_with fail
  refine HC.out.mono ?_
  rintro e w5 ⟨o, u, rfl, hol, hS5, hr5, hg5⟩
  go_wp2_with fail
  go_ret2
  exact ⟨xs, o, _, u, rfl, HX.out, hol, (Sl.grNew ⟨A4, c4, rfl, h41, h42, HT4.out⟩ hg5 HRl.out).newOld, hS5.newOld, below_gr HB1.out (gr_trans HG4.out hg5) HB1.out.size HRw.out⟩
theorem drawSerialOrders (bs : List Int) (A : Option Addr) (c : Nat) (w : World) (hl : bs.length ≤ 1048576) (hc : bs.length ≤ c) (hcm : c ≤ maxLen) (hA : Row tByte w (Old w) A bs) :
    Calls Tryz.prog 19 #[.slice A bs.length c] w (DrawnHO w) := by
  have HD := hide (drawSerialRight bs A c w hl hc hcm hA)
  clear hA
  go_enter Tryz.func19, Tryz.ntmps19
  go_wp2_with (go_at_call 74; refine HD.out.mono ?_; rintro e w1 ⟨xs, o, v, u, rfl, hS, hol, ho, hu, hb1⟩; have HO := hide ho; have HU := hide hu; have HB := hide hb1; clear ho hu hb1)
  go_ret2
  exact ⟨xs, o, v, u, rfl, hS, hol, HO.out, HU.out, HB.out⟩
end Go.Proofs.YtkcobaimcfggjaaGreatDoor
