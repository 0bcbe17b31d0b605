/- l20Edges: some edges. -/
import Derived.Test.YtnlicjgegclilaaDoorListsD
import Derived.Test.YtnlicjgegclilaaDoorHBox
namespace Go.Proofs.YtnlicjgegclilaaDoor
open Go.RowKit
set_option linter.unusedVariables false
set_option linter.unusedSimpArgs false

theorem infoEdgeD : (Tryd.prog.info? 49).map (fun i => (i.zero, i.size, i.bytes)) = some (some (.agg #[.int .i64 0, .int .i64 0, .int .i64 0]), 3, 24) := by kernel_rfl
/-- Some number and some edges. -/
def DrawnE (w : World) (R P : Nat) (e : Ending) (w' : World) : Prop := ∃ (many : Int) (xs : List Edge) (v : Value), e = .returned (.tuple #[.int .i64 many, v]) ∧ -1 ≤ many ∧ many ≤ 7 ∧ xs.length ≤ 9 ∧ Sl tEdge w' (New w w') xs v ∧ Rd w' R P ∧ Gr w w' R
theorem fiveE {w : World} {g : Nat} (h : Blk w g 3 #[.int .i64 1, .int .i64 2, .int .i64 3, .int .i64 3, .int .i64 4]) (y : Nat) (hy : y < 5) : ∃ z : Int, w.cell? ⟨g, y, none⟩ = some (.int .i64 z) := by
  rw [h.cell]
  match y, hy with
  | 0, _ => exact ⟨_, rfl⟩
  | 1, _ => exact ⟨_, rfl⟩
  | 2, _ => exact ⟨_, rfl⟩
  | 3, _ => exact ⟨_, rfl⟩
  | 4, _ => exact ⟨_, rfl⟩
theorem twoE {w : World} {g : Nat} {p q : Int} (h : Blk w g 3 #[.int .i64 p, .int .i64 q]) (y : Nat) (hy : y < 2) : ∃ z : Int, w.cell? ⟨g, y, none⟩ = some (.int .i64 z) ∧ (-1 ≤ p ∧ p ≤ 7 → -1 ≤ q ∧ q ≤ 7 → -1 ≤ z ∧ z ≤ 7) := by
  rw [h.cell]
  match y, hy with
  | 0, _ => exact ⟨p, rfl, fun h _ => h⟩
  | 1, _ => exact ⟨q, rfl, fun _ h => h⟩
set_option maxRecDepth 10000 in
set_option maxHeartbeats 4000000 in
theorem edges_any (w : World) (R P : Nat) (n : Int) (h : Rd w R P) (hP : P ≤ 5000) (hn : n ≤ 1000000) :
    Calls Tryd.prog 16 #[.pointer (some ⟨R, 0, none⟩), .int .i64 n] w (DrawnE w R (P + 40)) := by
  obtain ⟨i0, hi, hz0, hz1, hz2⟩ := info_parts infoEdgeD
  have HR0 := hide h
  have HlR := hide h.lt
  have HP := hide hP
  clear h hP
  go_enter Tryd.func16, Tryd.ntmps16
  go_wp2_with fail
  refine (pick_any _ R P 7 HR0.out (by have := HP.out; omega)).mono ?_
  rintro e w1 ⟨m, rfl, hm0, hm1, hr1, hg1⟩
  have hm7 := hm1 (by decide)
  obtain ⟨mn, rfl⟩ : ∃ n : Nat, m = (n : Int) := ⟨m.toNat, by omega⟩
  have hmn : mn ≤ 6 := by omega
  have HR1 := hide (hr1.alloc (.cells #[] 49))
  have HG1 := hide (gr_alloc hg1 (.cells #[] 49))
  have HO1 := hide ((Own.empty (T := tEdge) (e := 49) w1 (fun b => w.heap.size ≤ b) hg1.size))
  clear hm1 hr1 hg1 HR0 hm0
  go_wp2_with fail
  refine (pick_any _ R _ 9 HR1.out (by have := HP.out; omega)).mono ?_
  rintro e w2 ⟨m2, rfl, hk0, hk1, hr2, hg2⟩
  have hk9 := hk1 (by decide)
  obtain ⟨k0, rfl⟩ : ∃ n : Nat, m2 = (n : Int) := ⟨m2.toNat, by omega⟩
  have hk8 : k0 ≤ 8 := by omega
  have HR2 := hide hr2
  have HG2 := hide (gr_trans HG1.out hg2)
  have HO2 := hide (HO1.out.onlyGr hg2 (by have := HlR.out; omega))
  clear hk1 hr2 hg2 HR1 HG1 HO1 hk0 hk9
  go_wp2_with fail
  go_loopw [7, 8, 9, 10, 11] (fun o k _ _ _ wr => ∃ (kk : Nat) (xs : List Edge) (vo : Value), vo = o ∧ k = .int .i64 kk ∧ kk ≤ 8 ∧ Hid (xs.length + kk ≤ 8) ∧ Hid (Own tEdge 49 wr (fun b => w.heap.size ≤ b ∧ Old wr b) xs o) ∧ Hid (Rd wr R (P + 34 - 4 * kk)) ∧ Hid (Gr w wr R)) (fun _ k _ _ _ _ => (intOf k).toNat)
  case atStart => exact ⟨k0, [], _, rfl, rfl, hk8, by simpa [Hid] using hk8, HO2.out, HR2.out.up (by omega), HG2.out⟩
  case round =>
    obtain ⟨kk, xs, vo, rfl, rfl, hk, hxl, hO, hR, hG⟩ := hrel
    have HO := hide hO.out; have HR := hide hR.out; have HG := hide hG.out; have HX := hide hxl.out
    clear hO hR hG hxl HO2 HR2 HG2
    by_cases hgo : 0 < (kk : Int)
    · by_cases hm2 : 1 < (mn : Int)
      · go_wp2_with fail
        refine (pick_any _ R _ mn HR.out (by have := HP.out; omega)).mono ?_
        rintro e w3 ⟨ya, rfl, ha0, ha1, hr3, hg3⟩
        have ha2 := ha1 (by omega)
        have HR3 := hide hr3
        have HG3 := hide (gr_trans HG.out hg3)
        have HO3 := hide (HO.out.onlyGr hg3 (by have := HlR.out; omega))
        clear ha1 hr3 hg3 HR HG HO
        go_wp2_with fail
        refine (pick_any _ R _ _ HR3.out (by have := HP.out; omega)).mono ?_
        rintro e w4 ⟨yb, rfl, hb0, hb1, hr4, hg4⟩
        have hb2 := hb1 (by omega)
        have HR4 := hide hr4
        have HG4 := hide (gr_trans HG3.out hg4)
        have HO4 := hide (HO3.out.onlyGr hg4 (by have := HlR.out; omega))
        clear hb1 hr4 hg4 HR3 HG3 HO3
        go_upto_region 8 with (fail)
        generalize (ya + 1 + yb) % (mn : Int) = bv
        clear ha0 ha2 hb0 hb2
        go_wp2_with fail
        refine (pick_any _ R _ 2 HR4.out (by have := HP.out; omega)).mono ?_
        rintro e w5 ⟨y2, rfl, hc0, hc1, hr5, hg5⟩
        have HR5 := hide hr5
        have HG5 := hide (gr_trans HG4.out hg5)
        have HO5 := hide (HO4.out.onlyGr hg5 (by have := HlR.out; omega))
        clear hc1 hc0 hr5 hg5 HR4 HG4 HO4
        have hx := HX.out
        have HR6 := hide (HR5.out.alloc (.cells #[.int .i64 1, .int .i64 2, .int .i64 3, .int .i64 3, .int .i64 4] 3))
        have HG6 := hide (gr_alloc HG5.out (.cells #[.int .i64 1, .int .i64 2, .int .i64 3, .int .i64 3, .int .i64 4] 3))
        have HO6 := hide (HO5.out.onlyBelow ((Below.refl _ w5).alloc (Nat.le_refl _) (.cells #[.int .i64 1, .int .i64 2, .int .i64 3, .int .i64 3, .int .i64 4] 3)))
        have hR5 : R < w5.heap.size := HR5.out.lt
        have hS5 : w.heap.size ≤ w5.heap.size := HG5.out.size
        clear HR5 HG5 HO5
        cases hy : (y2 == 0)
        all_goals (go_wp2_with fail)
        all_goals
          clear hy
          refine (pick_any _ R _ 5 HR6.out (by have := HP.out; omega)).mono ?_
          rintro e w7 ⟨y5, rfl, hd0, hd1, hr7, hg7⟩
          have hd5 := hd1 (by decide)
          obtain ⟨yn, rfl⟩ : ∃ n : Nat, y5 = (n : Int) := ⟨y5.toNat, by omega⟩
          obtain ⟨z, hz⟩ := fiveE ((Blk.new w5 3 #[.int .i64 1, .int .i64 2, .int .i64 3, .int .i64 3, .int .i64 4]).of (hg7.block _ (by simp) (fun e => by injection e with e; omega))) yn (by omega)
          have HR7 := hide hr7
          have HG7 := hide (gr_trans HG6.out hg7)
          have HO7 := hide (HO6.out.onlyGr hg7 (by have := HlR.out; omega))
          clear hd1 hd0 hr7 hg7 HR6 HG6 HO6
          go_wp2_with (at_builtin; refine wpList_put tEdge rfl (.tmp 47) (.tmp 56) 23 rfl 49 i0 _ 24 Tryd.underlying23 hi hz0 hz1 hz2 rfl (by decide) (fun b => w.heap.size ≤ b) (fun _ => False) xs ⟨_, _, z⟩ [_, _, .int .i64 z] _ rfl HO7.out _ rfl rfl (fun _ h => h.elim) (fun b hb => Nat.le_trans HG7.out.size hb) (by simp only [maxLen]; omega) (by omega) ?_; intro v8 w8 hO_ hK_; have HO8 := hide hO_; have HR8 := hide (HR7.out.only hK_ (fun b hb => Nat.lt_of_lt_of_le HlR.out hb)); have HG8 := hide (gr_only HG7.out hK_ (fun b hb => hb)); clear hO_ hK_)
          go_roundw
          case rel => exact ⟨kk - 1, _, _, rfl, by go_num, by omega, by simp [Hid]; omega, HO8.out, HR8.out.up (by omega), HG8.out⟩
          case measure => simp [intOf]; omega
      · go_upto_region 13 with (fail)
        go_wp2_with fail
        refine (odd_any _ R _ n HR.out (by have := HP.out; omega) (by omega)).mono ?_
        rintro e w3 ⟨bo, rfl, hr3, hg3⟩
        have HR3 := hide hr3
        have HG3 := hide (gr_trans HG.out hg3)
        have HO3 := hide (HO.out.onlyGr hg3 (by have := HlR.out; omega))
        have hx := HX.out
        clear hr3 hg3 HR HG HO
        cases bo with
        | false =>
          go_wp2_with fail
          refine bodyPost_ret (v := .tuple #[.int .i64 _, _]) (by simp [results, Tryd.results16, go_sem]; exact ⟨rfl, rfl⟩) rfl ?_
          exact ⟨_, xs, _, rfl, by omega, by omega, by omega, (HO3.out.mono (S2 := New w _) (fun _ h => h) (fun _ _ => rfl)).sl, HR3.out.up (by omega), HG3.out⟩
        | true =>
          go_wp2_with fail
          refine (pick_any _ R _ 4 HR3.out (by have := HP.out; omega)).mono ?_
          rintro e w4 ⟨y, rfl, hy0, hy1, hr4, hg4⟩
          have HR4 := hide hr4
          have HG4 := hide (gr_trans HG3.out hg4)
          have HO4 := hide (HO3.out.onlyGr hg4 (by have := HlR.out; omega))
          clear hr4 hg4 HR3 HG3 HO3 hy0 hy1
          cases h0 : (y == 0) with
          | true =>
            go_wp2_with (at_builtin; refine wpList_put tEdge rfl (.tmp 70) (.tmp 72) 23 rfl 49 i0 _ 24 Tryd.underlying23 hi hz0 hz1 hz2 rfl (by decide) (fun b => w.heap.size ≤ b) (fun _ => False) xs ⟨0, 0, 1⟩ [_, _, _] _ rfl HO4.out _ rfl rfl (fun _ h => h.elim) (fun b hb => Nat.le_trans HG4.out.size hb) (by simp only [maxLen]; omega) (by omega) ?_; intro v8 w8 hO_ hK_; have HO8 := hide hO_; have HR8 := hide (HR4.out.only hK_ (fun b hb => Nat.lt_of_lt_of_le HlR.out hb)); have HG8 := hide (gr_only HG4.out hK_ (fun b hb => hb)); clear hO_ hK_)
            refine bodyPost_ret (v := .tuple #[.int .i64 _, _]) (by simp [results, Tryd.results16, go_sem]; exact ⟨rfl, rfl⟩) rfl ?_
            exact ⟨_, _, _, rfl, by omega, by omega, by simp; omega, (HO8.out.mono (S2 := New w _) (fun _ h => h) (fun _ _ => rfl)).sl, HR8.out.up (by omega), HG8.out⟩
          | false =>
            cases h1 : (y == 1) with
            | true =>
              go_wp2_with (at_builtin; refine wpList_put tEdge rfl (.tmp 76) (.tmp 79) 23 rfl 49 i0 _ 24 Tryd.underlying23 hi hz0 hz1 hz2 rfl (by decide) (fun b => w.heap.size ≤ b) (fun _ => False) xs ⟨0, (mn : Int), 1⟩ [_, _, _] _ rfl HO4.out _ rfl rfl (fun _ h => h.elim) (fun b hb => Nat.le_trans HG4.out.size hb) (by simp only [maxLen]; omega) (by omega) ?_; intro v8 w8 hO_ hK_; have HO8 := hide hO_; have HR8 := hide (HR4.out.only hK_ (fun b hb => Nat.lt_of_lt_of_le HlR.out hb)); have HG8 := hide (gr_only HG4.out hK_ (fun b hb => hb)); clear hO_ hK_)
              refine bodyPost_ret (v := .tuple #[.int .i64 _, _]) (by simp [results, Tryd.results16, go_sem]; exact ⟨rfl, rfl⟩) rfl ?_
              exact ⟨_, _, _, rfl, by omega, by omega, by simp; omega, (HO8.out.mono (S2 := New w _) (fun _ h => h) (fun _ _ => rfl)).sl, HR8.out.up (by omega), HG8.out⟩
            | false =>
              have hR4 : R < w4.heap.size := HR4.out.lt
              cases h2 : (y == 2) with
              | true =>
                have HR6 := hide (HR4.out.alloc (.cells #[.int .i64 0, .int .i64 5] 3))
                have HG6 := hide (gr_alloc HG4.out (.cells #[.int .i64 0, .int .i64 5] 3))
                have HO6 := hide (HO4.out.onlyBelow ((Below.refl _ w4).alloc (Nat.le_refl _) (.cells #[.int .i64 0, .int .i64 5] 3)))
                clear HR4 HG4 HO4
                go_wp2_with fail
                refine (pick_any _ R _ 2 HR6.out (by have := HP.out; omega)).mono ?_
                rintro e w7 ⟨y5, rfl, hd0, hd1, hr7, hg7⟩
                have hd5 := hd1 (by decide)
                obtain ⟨yn, rfl⟩ : ∃ n : Nat, y5 = (n : Int) := ⟨y5.toNat, by omega⟩
                obtain ⟨z, hz, hzb⟩ := twoE ((Blk.new w4 3 #[.int .i64 0, .int .i64 5]).of (hg7.block _ (by simp) (fun e => by injection e with e; omega))) yn (by omega)
                have HR7 := hide hr7
                have HG7 := hide (gr_trans HG6.out hg7)
                have HO7 := hide (HO6.out.onlyGr hg7 (by have := HlR.out; omega))
                clear hd1 hd0 hr7 hg7 HR6 HG6 HO6 hzb
                go_wp2_with (at_builtin; refine wpList_put tEdge rfl (.tmp 83) (.tmp 90) 23 rfl 49 i0 _ 24 Tryd.underlying23 hi hz0 hz1 hz2 rfl (by decide) (fun b => w.heap.size ≤ b) (fun _ => False) xs ⟨0, 1, z⟩ [_, _, .int .i64 z] _ rfl HO7.out _ rfl rfl (fun _ h => h.elim) (fun b hb => Nat.le_trans HG7.out.size hb) (by simp only [maxLen]; omega) (by omega) ?_; intro v8 w8 hO_ hK_; have HO8 := hide hO_; have HR8 := hide (HR7.out.only hK_ (fun b hb => Nat.lt_of_lt_of_le HlR.out hb)); have HG8 := hide (gr_only HG7.out hK_ (fun b hb => hb)); clear hO_ hK_)
                refine bodyPost_ret (v := .tuple #[.int .i64 _, _]) (by simp [results, Tryd.results16, go_sem]; exact ⟨rfl, rfl⟩) rfl ?_
                exact ⟨_, _, _, rfl, by omega, by omega, by simp; omega, (HO8.out.mono (S2 := New w _) (fun _ h => h) (fun _ _ => rfl)).sl, HR8.out.up (by omega), HG8.out⟩
              | false =>
                have HR6 := hide (HR4.out.alloc (.cells #[.int .i64 (-1), .int .i64 7] 3))
                have HG6 := hide (gr_alloc HG4.out (.cells #[.int .i64 (-1), .int .i64 7] 3))
                have HO6 := hide (HO4.out.onlyBelow ((Below.refl _ w4).alloc (Nat.le_refl _) (.cells #[.int .i64 (-1), .int .i64 7] 3)))
                clear HR4 HG4 HO4
                go_wp2_with fail
                refine (pick_any _ R _ 2 HR6.out (by have := HP.out; omega)).mono ?_
                rintro e w7 ⟨y5, rfl, hd0, hd1, hr7, hg7⟩
                have hd5 := hd1 (by decide)
                obtain ⟨yn, rfl⟩ : ∃ n : Nat, y5 = (n : Int) := ⟨y5.toNat, by omega⟩
                obtain ⟨z, hz, hzb⟩ := twoE ((Blk.new w4 3 #[.int .i64 (-1), .int .i64 7]).of (hg7.block _ (by simp) (fun e => by injection e with e; omega))) yn (by omega)
                have HZb := hide (hzb (by decide) (by decide))
                have HR7 := hide hr7
                have HG7 := hide (gr_trans HG6.out hg7)
                have HO7 := hide (HO6.out.onlyGr hg7 (by have := HlR.out; omega))
                clear hd1 hd0 hr7 hg7 HR6 HG6 HO6 hzb
                go_wp2_with fail
                refine bodyPost_ret (v := .tuple #[.int .i64 _, _]) (by simp [results, Tryd.results16, go_sem]; exact ⟨rfl, rfl⟩) rfl ?_
                exact ⟨_, _, _, rfl, HZb.out.1, HZb.out.2, by omega, (HO7.out.mono (S2 := New w _) (fun _ h => h) (fun _ _ => rfl)).sl, HR7.out.up (by omega), HG7.out⟩
    · go_upto_region 13 with (fail)
      go_wp2_with fail
      refine (odd_any _ R _ n HR.out (by have := HP.out; omega) (by omega)).mono ?_
      rintro e w3 ⟨bo, rfl, hr3, hg3⟩
      have HR3 := hide hr3
      have HG3 := hide (gr_trans HG.out hg3)
      have HO3 := hide (HO.out.onlyGr hg3 (by have := HlR.out; omega))
      have hx := HX.out
      clear hr3 hg3 HR HG HO
      cases bo with
      | false =>
        go_wp2_with fail
        refine bodyPost_ret (v := .tuple #[.int .i64 _, _]) (by simp [results, Tryd.results16, go_sem]; exact ⟨rfl, rfl⟩) rfl ?_
        exact ⟨_, xs, _, rfl, by omega, by omega, by omega, (HO3.out.mono (S2 := New w _) (fun _ h => h) (fun _ _ => rfl)).sl, HR3.out.up (by omega), HG3.out⟩
      | true =>
        go_wp2_with fail
        refine (pick_any _ R _ 4 HR3.out (by have := HP.out; omega)).mono ?_
        rintro e w4 ⟨y, rfl, hy0, hy1, hr4, hg4⟩
        have HR4 := hide hr4
        have HG4 := hide (gr_trans HG3.out hg4)
        have HO4 := hide (HO3.out.onlyGr hg4 (by have := HlR.out; omega))
        clear hr4 hg4 HR3 HG3 HO3 hy0 hy1
        cases h0 : (y == 0) with
        | true =>
          go_wp2_with (at_builtin; refine wpList_put tEdge rfl (.tmp 70) (.tmp 72) 23 rfl 49 i0 _ 24 Tryd.underlying23 hi hz0 hz1 hz2 rfl (by decide) (fun b => w.heap.size ≤ b) (fun _ => False) xs ⟨0, 0, 1⟩ [_, _, _] _ rfl HO4.out _ rfl rfl (fun _ h => h.elim) (fun b hb => Nat.le_trans HG4.out.size hb) (by simp only [maxLen]; omega) (by omega) ?_; intro v8 w8 hO_ hK_; have HO8 := hide hO_; have HR8 := hide (HR4.out.only hK_ (fun b hb => Nat.lt_of_lt_of_le HlR.out hb)); have HG8 := hide (gr_only HG4.out hK_ (fun b hb => hb)); clear hO_ hK_)
          refine bodyPost_ret (v := .tuple #[.int .i64 _, _]) (by simp [results, Tryd.results16, go_sem]; exact ⟨rfl, rfl⟩) rfl ?_
          exact ⟨_, _, _, rfl, by omega, by omega, by simp; omega, (HO8.out.mono (S2 := New w _) (fun _ h => h) (fun _ _ => rfl)).sl, HR8.out.up (by omega), HG8.out⟩
        | false =>
          cases h1 : (y == 1) with
          | true =>
            go_wp2_with (at_builtin; refine wpList_put tEdge rfl (.tmp 76) (.tmp 79) 23 rfl 49 i0 _ 24 Tryd.underlying23 hi hz0 hz1 hz2 rfl (by decide) (fun b => w.heap.size ≤ b) (fun _ => False) xs ⟨0, (mn : Int), 1⟩ [_, _, _] _ rfl HO4.out _ rfl rfl (fun _ h => h.elim) (fun b hb => Nat.le_trans HG4.out.size hb) (by simp only [maxLen]; omega) (by omega) ?_; intro v8 w8 hO_ hK_; have HO8 := hide hO_; have HR8 := hide (HR4.out.only hK_ (fun b hb => Nat.lt_of_lt_of_le HlR.out hb)); have HG8 := hide (gr_only HG4.out hK_ (fun b hb => hb)); clear hO_ hK_)
            refine bodyPost_ret (v := .tuple #[.int .i64 _, _]) (by simp [results, Tryd.results16, go_sem]; exact ⟨rfl, rfl⟩) rfl ?_
            exact ⟨_, _, _, rfl, by omega, by omega, by simp; omega, (HO8.out.mono (S2 := New w _) (fun _ h => h) (fun _ _ => rfl)).sl, HR8.out.up (by omega), HG8.out⟩
          | false =>
            have hR4 : R < w4.heap.size := HR4.out.lt
            cases h2 : (y == 2) with
            | true =>
              have HR6 := hide (HR4.out.alloc (.cells #[.int .i64 0, .int .i64 5] 3))
              have HG6 := hide (gr_alloc HG4.out (.cells #[.int .i64 0, .int .i64 5] 3))
              have HO6 := hide (HO4.out.onlyBelow ((Below.refl _ w4).alloc (Nat.le_refl _) (.cells #[.int .i64 0, .int .i64 5] 3)))
              clear HR4 HG4 HO4
              go_wp2_with fail
              refine (pick_any _ R _ 2 HR6.out (by have := HP.out; omega)).mono ?_
              rintro e w7 ⟨y5, rfl, hd0, hd1, hr7, hg7⟩
              have hd5 := hd1 (by decide)
              obtain ⟨yn, rfl⟩ : ∃ n : Nat, y5 = (n : Int) := ⟨y5.toNat, by omega⟩
              obtain ⟨z, hz, hzb⟩ := twoE ((Blk.new w4 3 #[.int .i64 0, .int .i64 5]).of (hg7.block _ (by simp) (fun e => by injection e with e; omega))) yn (by omega)
              have HR7 := hide hr7
              have HG7 := hide (gr_trans HG6.out hg7)
              have HO7 := hide (HO6.out.onlyGr hg7 (by have := HlR.out; omega))
              clear hd1 hd0 hr7 hg7 HR6 HG6 HO6 hzb
              go_wp2_with (at_builtin; refine wpList_put tEdge rfl (.tmp 83) (.tmp 90) 23 rfl 49 i0 _ 24 Tryd.underlying23 hi hz0 hz1 hz2 rfl (by decide) (fun b => w.heap.size ≤ b) (fun _ => False) xs ⟨0, 1, z⟩ [_, _, .int .i64 z] _ rfl HO7.out _ rfl rfl (fun _ h => h.elim) (fun b hb => Nat.le_trans HG7.out.size hb) (by simp only [maxLen]; omega) (by omega) ?_; intro v8 w8 hO_ hK_; have HO8 := hide hO_; have HR8 := hide (HR7.out.only hK_ (fun b hb => Nat.lt_of_lt_of_le HlR.out hb)); have HG8 := hide (gr_only HG7.out hK_ (fun b hb => hb)); clear hO_ hK_)
              refine bodyPost_ret (v := .tuple #[.int .i64 _, _]) (by simp [results, Tryd.results16, go_sem]; exact ⟨rfl, rfl⟩) rfl ?_
              exact ⟨_, _, _, rfl, by omega, by omega, by simp; omega, (HO8.out.mono (S2 := New w _) (fun _ h => h) (fun _ _ => rfl)).sl, HR8.out.up (by omega), HG8.out⟩
            | false =>
              have HR6 := hide (HR4.out.alloc (.cells #[.int .i64 (-1), .int .i64 7] 3))
              have HG6 := hide (gr_alloc HG4.out (.cells #[.int .i64 (-1), .int .i64 7] 3))
              have HO6 := hide (HO4.out.onlyBelow ((Below.refl _ w4).alloc (Nat.le_refl _) (.cells #[.int .i64 (-1), .int .i64 7] 3)))
              clear HR4 HG4 HO4
              go_wp2_with fail
              refine (pick_any _ R _ 2 HR6.out (by have := HP.out; omega)).mono ?_
              rintro e w7 ⟨y5, rfl, hd0, hd1, hr7, hg7⟩
              have hd5 := hd1 (by decide)
              obtain ⟨yn, rfl⟩ : ∃ n : Nat, y5 = (n : Int) := ⟨y5.toNat, by omega⟩
              obtain ⟨z, hz, hzb⟩ := twoE ((Blk.new w4 3 #[.int .i64 (-1), .int .i64 7]).of (hg7.block _ (by simp) (fun e => by injection e with e; omega))) yn (by omega)
              have HZb := hide (hzb (by decide) (by decide))
              have HR7 := hide hr7
              have HG7 := hide (gr_trans HG6.out hg7)
              have HO7 := hide (HO6.out.onlyGr hg7 (by have := HlR.out; omega))
              clear hd1 hd0 hr7 hg7 HR6 HG6 HO6 hzb
              go_wp2_with fail
              refine bodyPost_ret (v := .tuple #[.int .i64 _, _]) (by simp [results, Tryd.results16, go_sem]; exact ⟨rfl, rfl⟩) rfl ?_
              exact ⟨_, _, _, rfl, HZb.out.1, HZb.out.2, by omega, (HO7.out.mono (S2 := New w _) (fun _ h => h) (fun _ _ => rfl)).sl, HR7.out.up (by omega), HG7.out⟩
end Go.Proofs.YtnlicjgegclilaaDoor
