/- CycleRight of the program: allOf, the walk along a cycle. -/
import Derived.Test.YtnlicjgegclilaaDoorMatOf
import Derived.Test.YtnlicjgegclilaaDoorCycle
namespace Go.Proofs.YtnlicjgegclilaaDoor
open Go.RowKit
set_option linter.unusedVariables false

theorem allOf_any (many : Int) (xs : List Edge) (A : Option Addr) (c : Nat) (w : World) (hl : xs.length ≤ maxLen) (hA : Row tEdge w (Old w) A xs) (hm : many ≤ 6) (hv : xs.all (edgeOk many) = true) :
    Calls Tryd.prog 20 #[.slice A xs.length c] w fun e w' => e = .returned (.agg (row6 (matOf [1, 2, 3, 4] xs))) ∧ Below w.heap.size w w' := by
  have HA := hide hA
  have HC := hide (fun (W : World) (B : Option Addr) (hb : Below w.heap.size w W) (hB : Row tInt W (Old W) B [1, 2, 3, 4]) => matrixOf_any many [1, 2, 3, 4] xs A B c 4 W hl (by decide) (hA.old hb) hB hm hv)
  clear hA
  go_enter Tryd.func20, Tryd.ntmps20
  have HB0 := hide (show Below w.heap.size w ((w.alloc (.cells #[.int .u64 0, .int .u64 0, .int .u64 0, .int .u64 0, .int .u64 0, .int .u64 0] 44)).alloc (.cells #[.int .i64 1, .int .i64 2, .int .i64 3, .int .i64 4] 3)) from ((Below.refl _ _).alloc (Nat.le_refl _) _).alloc (by simp) _)
  have HK0 := hide (heap_alloc2_old w (.cells #[.int .u64 0, .int .u64 0, .int .u64 0, .int .u64 0, .int .u64 0, .int .u64 0] 44) (.cells #[.int .i64 1, .int .i64 2, .int .i64 3, .int .i64 4] 3))
  have HK1 := hide (heap_alloc2_new w (.cells #[.int .u64 0, .int .u64 0, .int .u64 0, .int .u64 0, .int .u64 0, .int .u64 0] 44) (.cells #[.int .i64 1, .int .i64 2, .int .i64 3, .int .i64 4] 3))
  have HR := hide (show Row tInt ((w.alloc (.cells #[.int .u64 0, .int .u64 0, .int .u64 0, .int .u64 0, .int .u64 0, .int .u64 0] 44)).alloc (.cells #[.int .i64 1, .int .i64 2, .int .i64 3, .int .i64 4] 3)) (Old ((w.alloc (.cells #[.int .u64 0, .int .u64 0, .int .u64 0, .int .u64 0, .int .u64 0, .int .u64 0] 44)).alloc (.cells #[.int .i64 1, .int .i64 2, .int .i64 3, .int .i64 4] 3))) (some ⟨w.heap.size + 1, 0, none⟩) [1, 2, 3, 4] from fun _ => ⟨_, 0, rfl, by simp [Old], fun k hk => by
    have hB : Blk _ (w.heap.size + 1) 3 _ := HK1.out
    refine ⟨_, rfl, fun j u hu => ?_⟩
    obtain ⟨hj, rfl⟩ := List.getElem?_eq_some_iff.1 hu
    have hj0 : j = 0 := by simpa using hj
    subst hj0
    rw [hB.cell]
    match k, hk with
    | 0, _ => rfl | 1, _ => rfl | 2, _ => rfl | 3, _ => rfl
    | k + 4, h => exact absurd h (by simp)⟩)
  go_wp2_with (first | (go_at_call 31; refine (HC.out _ _ HB0.out HR.out).mono ?_; rintro e w1 ⟨rfl, hb1⟩; have HB1 := hide (HB0.out.trans (hb1.mono HB0.out.size)); have HX := hide (show Blk w1 w.heap.size 44 _ from (hb1.block w.heap.size (by simp; omega)).trans HK0.out); clear hb1) | (refine wpList_store_row rfl 44 (.tmp 2) (.tmp 5) rfl w.heap.size _ rfl rfl 44 _ HX.out infoMat rfl (row6_one _) ?_))
  exact bodyPost_ret (results_cell_row rfl _ _ w.heap.size 44 _ (0, 0) _ rfl (setRow_heap _ _ _ _ _ _ HX.out) Tryd.underlying44 rfl infoMat) rfl ⟨rfl, setRow_below HB1.out (Nat.le_refl _) _⟩

set_option maxRecDepth 10000 in
set_option maxHeartbeats 2000000 in
theorem implCycleRight (many : Int) (xs : List Edge) (ns : List Int) (A B : Option Addr) (c d : Nat) (w : World) (hl : xs.length ≤ maxLen) (hln : ns.length ≤ maxLen) (hA : Row tEdge w (Old w) A xs) (hB : Row tInt w (Old w) B ns) :
    Calls Tryd.prog 6 #[.int .i64 many, .slice A xs.length c, .slice B ns.length d] w fun e w' => e = .returned (.bool (cycV many xs ns)) ∧ Below w.heap.size w w' := by
  have HE := hide (implEdgesValid many xs A c w hl hA)
  have HM := hide hln
  have HLx := hide hl
  unfold maxLen at hl hln
  have HA := hide hA
  have HB := hide hB
  clear hA hB
  cases hv : edgesV many xs with
  | false =>
    have HV := hide (show cycV many xs ns = false by unfold cycV; rw [hv]; rfl)
    rw [hv] at HE
    clear hv
    go_enter Tryd.func6, Tryd.ntmps6
    go_wp2_with (go_at_call 19; refine HE.out.mono ?_; rintro e w1 ⟨rfl, hb1⟩)
    go_ret
    exact ⟨ret_bool HV.out.symm, hb1⟩
  | true =>
    by_cases h2 : 2 ≤ ns.length
    · have HV := hide (show cycV many xs ns = cycI xs ns by unfold cycV; rw [hv, cyc_eq]; simp [h2])
      have hv2 := hv
      unfold edgesV at hv2
      simp only [Bool.and_eq_true, decide_eq_true_eq] at hv2
      obtain ⟨⟨hv3, _⟩, hv4⟩ := hv2
      obtain ⟨hm0, hm6⟩ := inR_iff.1 hv3
      have HAl := hide hv4
      have hd2 : decide ((ns.length : Int) < 2) = false := by simp; omega
      clear hv3 hv4
      rw [hv] at HE
      clear hv
      go_enter Tryd.func6, Tryd.ntmps6
      go_wp2_with (first | (go_at_call 19; refine HE.out.mono ?_; rintro e w1 ⟨rfl, hb1⟩; have HB1 := hide hb1; clear hb1) | (go_at_call 20; refine (allOf_any many xs A c w1 HLx.out (HA.out.old HB1.out) hm6 HAl.out).mono ?_; rintro e w2 ⟨rfl, hb2⟩; have HB2 := hide (HB1.out.trans (hb2.mono HB1.out.size)); clear hb2) | (refine wpList_store_row rfl 44 (.tmp 7) (.tmp 22) rfl w2.heap.size _ rfl rfl 44 _ (Blk.new w2 _ _) infoMat rfl (row6_one _) ?_))
      generalize hW3 : World.setRow _ _ _ = W3
      have HX := hide (show Blk W3 w2.heap.size 44 (row6 (matOf [1, 2, 3, 4] xs)) by rw [← hW3]; exact setRow_heap _ _ _ _ _ _ (Blk.new w2 _ _))
      have HB3 := hide (show Below w.heap.size w W3 by rw [← hW3]; exact setRow_below (HB2.out.alloc HB2.out.size _) HB2.out.size _)
      have HG := hide HB2.out.size
      clear hW3
      have HMl : Hid (∀ i, matOf [1, 2, 3, 4] xs i < 64) := matOf_lt hm6 xs (fun _ => 0) HAl.out (fun _ => by decide)
      have HMb : Hid (∀ i j : Nat, (matOf [1, 2, 3, 4] xs i).testBit j = hasE xs i j) := allOf_bit HAl.out
      generalize matOf [1, 2, 3, 4] xs = M at HX HMl HMb ⊢
      generalize w2.heap.size = g at HX HG ⊢
      clear HB1 HB2
      go_loopw [8, 25] (fun sv i wr => ∃ k s : Nat, k ≤ ns.length ∧ i = .int .i64 k ∧ sv = .int .u64 s ∧ s < 64 ∧ Hid (∀ j : Nat, s.testBit j = (ns.take k).any (fun y => y == (j : Int))) ∧ Hid (∀ j, j < k → stepI xs ns j = true) ∧ Hid (Blk wr g 44 (row6 M)) ∧ Below w.heap.size w wr) (fun _ i _ => ns.length - (intOf i).toNat)
      case atStart => exact ⟨0, 0, Nat.zero_le _, rfl, rfl, by decide, fun j => by simp, fun _ h => absurd h (by omega), HX.out, HB3.out⟩
      case round =>
        obtain ⟨k, s, hk, rfl, rfl, hs, hS, hI, hX, hb⟩ := hrel
        clear HB3 HX HE
        by_cases hlt : k < ns.length
        · obtain ⟨m, hmd⟩ : ∃ m, m = (k + 1) % ns.length := ⟨_, rfl⟩
          have hm : m < ns.length := by rw [hmd]; exact Nat.mod_lt _ (by omega)
          have hrem := rem_nat k ns.length m hmd
          have HSt := hide (show stepI xs ns k = (hasE xs ns[k] ns[m] && !(ns.take k).any (fun y => y == ns[k])) by unfold stepI; rw [at_get hlt, ← hmd, at_get hm])
          have HAt := hide (at_get hlt)
          obtain ⟨b, off, hBq, hbS, c0⟩ := at_Int HB.out hb hlt
          obtain ⟨b', off', hBq', _, c1⟩ := at_Int HB.out hb hm
          subst hBq
          obtain ⟨rfl, rfl⟩ : b = b' ∧ off = off' := by simpa using hBq'
          clear hBq' hmd
          generalize ns[k] = x at HSt c0 HAt
          generalize ns[m] = y at HSt c1
          cases q1 : inR x 0 (many - 1) with
          | false =>
            have HF := hide (show stepI xs ns k = false by
              rw [HSt.out]
              cases h : hasE xs x y with
              | false => rfl
              | true => have := (hasE_in HAl.out h).1; rw [q1] at this; cases this)
            go_wp2_with (go_at_call 21; refine (within _ _ _ _).mono ?_; rintro e w' ⟨rfl, rfl⟩)
            go_ret
            exact ⟨ret_bool (by rw [HV.out]; exact (range_not hlt HF.out).symm), hb⟩
          | true =>
            cases q2 : inR y 0 (many - 1) with
            | false =>
              have HF := hide (show stepI xs ns k = false by
                rw [HSt.out]
                cases h : hasE xs x y with
                | false => rfl
                | true => have := (hasE_in HAl.out h).2; rw [q2] at this; cases this)
              go_wp2_with (go_at_call 21; refine (within _ _ _ _).mono ?_; rintro e w' ⟨rfl, rfl⟩)
              go_ret
              exact ⟨ret_bool (by rw [HV.out]; exact (range_not hlt HF.out).symm), hb⟩
            | true =>
              obtain ⟨hx0, hx1⟩ := inR_iff.1 q1
              obtain ⟨hy0, hy1⟩ := inR_iff.1 q2
              obtain ⟨n, rfl⟩ : ∃ n : Nat, x = (n : Int) := ⟨x.toNat, by omega⟩
              obtain ⟨j, rfl⟩ : ∃ j : Nat, y = (j : Int) := ⟨y.toNat, by omega⟩
              have hn6 : n < 6 := by omega
              have hj6 : j < 6 := by omega
              have HSn := hide (hS.out n)
              cases q3 : s.testBit n with
              | true =>
                have HF := hide (show stepI xs ns k = false by rw [HSt.out, ← HSn.out, q3]; simp)
                have hsh := (shr_eq s n hs).trans q3
                clear q3
                go_wp2_with (go_at_call 21; refine (within _ _ _ _).mono ?_; rintro e w' ⟨rfl, rfl⟩)
                go_ret
                exact ⟨ret_bool (by rw [HV.out]; exact (range_not hlt HF.out).symm), hb⟩
              | false =>
                have hsh := (shr_eq s n hs).trans q3
                have m0 := (hX.out.cell 0).trans (row6_get M 0 (by decide))
                have m1 := (hX.out.cell 1).trans (row6_get M 1 (by decide))
                have m2 := (hX.out.cell 2).trans (row6_get M 2 (by decide))
                have m3 := (hX.out.cell 3).trans (row6_get M 3 (by decide))
                have m4 := (hX.out.cell 4).trans (row6_get M 4 (by decide))
                have m5 := (hX.out.cell 5).trans (row6_get M 5 (by decide))
                have HH := hide (has_ M n j hn6 hj6 (HMl.out n) wr)
                have HQ := hide q3
                clear q3
                cases q4 : hasE xs (n : Int) (j : Int) with
                | false =>
                  have HF := hide (show stepI xs ns k = false by rw [HSt.out, q4]; rfl)
                  have HT := hide ((HMb.out n j).trans q4)
                  rw [HT.out] at HH
                  clear q4
                  go_wp2_with (first | (go_at_call 21; refine (within _ _ _ _).mono ?_; rintro e w' ⟨rfl, rfl⟩) | (go_at_call 22; refine HH.out.mono ?_; rintro e w4 ⟨rfl, hb4⟩))
                  go_ret
                  exact ⟨ret_bool (by rw [HV.out]; exact (range_not hlt HF.out).symm), hb.trans (hb4.mono hb.size)⟩
                | true =>
                  have HF := hide (show stepI xs ns k = true by rw [HSt.out, q4, ← HSn.out, HQ.out]; rfl)
                  have HT := hide ((HMb.out n j).trans q4)
                  rw [HT.out] at HH
                  have hor := or_shl s n hs hn6
                  have HLt := hide (show s ||| 2 ^ n < 64 from Nat.or_lt_two_pow (n := 6) hs (pow6 hn6))
                  have HSeen := hide (seen_succ hlt HAt.out hS.out)
                  clear q4
                  go_wp2_with (first | (go_at_call 21; refine (within _ _ _ _).mono ?_; rintro e w' ⟨rfl, rfl⟩) | (go_at_call 22; refine HH.out.mono ?_; rintro e w4 ⟨rfl, hb4⟩; have HB4 := hide hb4; clear hb4))
                  go_roundw
                  case rel => exact ⟨k + 1, s ||| 2 ^ n, by omega, by go_num, rfl, HLt.out, HSeen.out, (fun j hj => by rcases Nat.lt_succ_iff_lt_or_eq.1 hj with h | rfl; exact hI.out j h; exact HF.out), hX.out.below HB4.out hX.out.lt, hb.trans (HB4.out.mono hb.size)⟩
                  case measure => simp [intOf]; omega
        · obtain rfl : k = ns.length := by omega
          have HF := hide (show cycI xs ns = true from range_upto hI.out)
          go_wp2
          go_ret
          exact ⟨ret_bool (by rw [HV.out, HF.out]), hb⟩
    · have HV := hide (show cycV many xs ns = false by unfold cycV; simp [h2])
      rw [hv] at HE
      clear hv
      go_enter Tryd.func6, Tryd.ntmps6
      go_wp2_with (go_at_call 19; refine HE.out.mono ?_; rintro e w1 ⟨rfl, hb1⟩)
      go_ret
      exact ⟨ret_bool HV.out.symm, hb1⟩
end Go.Proofs.YtnlicjgegclilaaDoor
