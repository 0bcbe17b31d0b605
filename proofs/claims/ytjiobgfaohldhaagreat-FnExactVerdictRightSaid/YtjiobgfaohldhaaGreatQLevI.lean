/- Last values, kinds of bad reads, early reads: the program's LastValue, badKind, early. The program's BadReads of the kinds 1 to 3, and ReadsRight. The program's around, HasAnomaly, LevelAllows, LevelOf. The program's LevelAllows and LevelOf. -/
import Derived.Test.YtjiobgfaohldhaaGreatQReadM
import Derived.Test.YtjiobgfaohldhaaGreatQEdgI
import Derived.Test.YtjiobgfaohldhaaGreatQNest2
import Derived.Test.YtjiobgfaohldhaaGreatQCycI
import Derived.Test.YtjiobgfaohldhaaGreatQSortC
namespace Go.Proofs.YtjiobgfaohldhaaGreat
open Go.RowKit Go.Maps
set_option linter.unusedVariables false
set_option linter.unusedSimpArgs false

set_option maxRecDepth 10000 in
set_option maxHeartbeats 1000000 in
theorem index_W (xs : List Op) (key v : Int) (A : Option Addr) (c : Nat) (w : World) (hl : xs.length ≤ 1048576) (hA : Row tOp w (Old w) A xs) :
    Calls Tryz.prog 180 #[.slice A xs.length c, .agg #[.int .i64 2, .int .i64 key, .int .i64 v]] w fun e w' => e = .returned (.int .i64 (idx (isW key v) xs)) ∧ Below w.heap.size w w' := by
  have HA := hide hA
  have hq : xs.length ≤ 9223372036854775807 := by omega
  clear hA
  go_enter Tryz.func180, Tryz.ntmps180
  go_wp2
  go_loopw [8] (fun i wr => ∃ k : Nat, k ≤ xs.length ∧ i = .int .i64 k ∧ Hid (∀ j (hj : j < xs.length), j < k → isW key v xs[j] = false) ∧ Hid (Blk wr w.heap.size 82 #[.int .i64 2, .int .i64 key, .int .i64 v]) ∧ Hid (Below w.heap.size w wr)) (fun i _ => xs.length - (intOf i).toNat)
  case atStart => exact ⟨0, Nat.zero_le _, rfl, (fun j hj h => absurd h (by omega)), Blk.new w _ _, (Below.refl _ w).alloc (Nat.le_refl _) _⟩
  case round =>
    obtain ⟨k, hk, rfl, hI, hB, hb⟩ := hrel
    by_cases hlt : k < xs.length
    · obtain ⟨b, off, rfl, hbS, d0, d1, d2⟩ := at_Op HA.out hb.out hlt
      have x0 := hB.out.cell 0; have x1 := hB.out.cell 1; have x2 := hB.out.cell 2
      simp only [List.getElem?_toArray, List.getElem?_cons_zero, List.getElem?_cons_succ] at x0 x1 x2
      have HB := hide hb.out; have HX := hide hB.out
      clear hB hb
      cases hw : isW key v xs[k] with
      | true =>
        have HR := hide (idx_hit (isW key v) xs k hlt hw hI.out)
        have hw' := hw
        simp only [isW, Bool.and_eq_true, beq_iff_eq] at hw'
        obtain ⟨⟨hw0, hw1⟩, hw2⟩ := hw'
        rw [hw0] at d0; rw [hw1] at d1; rw [hw2] at d2
        clear hw hw0 hw1 hw2 hI
        go_upto_region 4 with (fail)
        go_quiet (fail)
        go_wp2_with fail
        go_ret
        exact ⟨ret_int HR.out.symm, below_drewN HB.out _⟩
      | false =>
        have HI := hide (show ∀ j (hj : j < xs.length), j < k + 1 → isW key v xs[j] = false from fun j hj h => by rcases Nat.lt_succ_iff_lt_or_eq.1 h with h | rfl; exact hI.out j hj h; exact hw)
        have HW := hide hw
        clear hw hI
        generalize xs[k] = o at d0 d1 d2 HW
        obtain ⟨kd, ky, vl⟩ := o
        dsimp only at d0 d1 d2
        by_cases q0 : kd = 2
        · subst q0
          by_cases q1 : ky = key
          · subst q1
            have q2 : vl ≠ v := fun e => by have := HW.out; simp [isW, e] at this
            have r2 : (v == vl) = false := by rw [beq_eq_false_iff_ne]; exact fun e => q2 e.symm
            clear q2
            go_upto_region 4 with (fail)
            go_quiet (fail)
            go_wp2_with fail
            go_roundw
            case rel => exact ⟨k + 1, by omega, by go_num, HI.out, HX.out.of rfl, below_drewN HB.out _⟩
            case measure => simp [intOf]; omega
          · have r2 : (key == ky) = false := by rw [beq_eq_false_iff_ne]; exact fun e => q1 e.symm
            clear q1
            go_upto_region 4 with (fail)
            go_quiet (fail)
            go_wp2_with fail
            go_roundw
            case rel => exact ⟨k + 1, by omega, by go_num, HI.out, HX.out.of rfl, below_drewN HB.out _⟩
            case measure => simp [intOf]; omega
        · have r2 : ((2 : Int) == kd) = false := by rw [beq_eq_false_iff_ne]; exact fun e => q0 e.symm
          clear q0
          go_upto_region 4 with (fail)
          go_quiet (fail)
          go_wp2_with fail
          go_roundw
          case rel => exact ⟨k + 1, by omega, by go_num, HI.out, HX.out.of rfl, below_drewN HB.out _⟩
          case measure => simp [intOf]; omega
    · have HI := hide (idx_miss (isW key v) xs (fun j hj => hI.out j hj (by omega)))
      clear hI
      go_wp2_with fail
      go_ret
      exact ⟨ret_int HI.out.symm, hb.out⟩
set_option maxHeartbeats 1000000 in
theorem contains_W (xs : List Op) (key v : Int) (A : Option Addr) (c : Nat) (w : World) (hl : xs.length ≤ 1048576) (hA : Row tOp w (Old w) A xs) :
    Calls Tryz.prog 163 #[.slice A xs.length c, .agg #[.int .i64 2, .int .i64 key, .int .i64 v]] w fun e w' => e = .returned (.bool (xs.any (isW key v))) ∧ Below w.heap.size w w' := by
  have HB := hide ((Below.refl _ w).alloc (Nat.le_refl _) (.cells #[.int .i64 2, .int .i64 key, .int .i64 v] 82))
  have H := hide (index_W xs key v A c (w.alloc (.cells #[.int .i64 2, .int .i64 key, .int .i64 v] 82)) hl (hA.old HB.out))
  clear hA
  go_enter Tryz.func163, Tryz.ntmps163
  go_wp2_with (go_at_call 180; refine H.out.mono ?_; rintro e w' ⟨rfl, hb⟩; have HB2 := hide (HB.out.trans (hb.mono HB.out.size)); clear hb)
  go_ret
  refine ⟨ret_bool ?_, HB2.out⟩
  rw [Bool.eq_iff_iff, ← idx_neg, decide_eq_true_iff]
theorem lastW_any {ops : List Op} {key v : Int} (k : Int) : (lastW ops k).toList.any (isW key v) = (if k = key then (match lastW ops key with | some d => d.Value == v | none => false) else false) := by
  cases hl : lastW ops k with
  | none =>
    split
    · rename_i he; subst he; rw [hl]; rfl
    · rfl
  | some d =>
    obtain ⟨_, h2, h3⟩ := lastW_some hl
    split
    · rename_i he
      subst he
      rw [hl]
      simp [isW, h2, h3]
    · rename_i he
      simp [isW, h2, h3, he]
theorem last_any {h : List Txn} (hv : histV h = true) {key v : Int} {m : Nat} (hw : wrN h key v = some (m : Int)) : (lastWs (opsOf h (m : Int))).any (isW key v) = lastB h key v := by
  obtain ⟨n, hn, _, o, ho, h2, h3, h4⟩ := wrN_some hw
  have hk := (opOk_parts (op_ok hv _ o ho)).2.1
  unfold lastB lastWs
  rw [hw]
  simp only [List.any_append, lastW_any]
  rw [h3] at hk
  rcases hk with rfl | rfl | rfl <;> simp <;> rfl
theorem wr_two (h : List Txn) (key v : Int) : wrI h key v = -1 ∨ ∃ m : Nat, m < h.length ∧ wrI h key v = (m : Int) := by
  unfold wrI
  cases hw : wrN h key v with
  | none => exact .inl rfl
  | some x =>
    obtain ⟨n, rfl, hn, _⟩ := wrN_some hw
    exact .inr ⟨n, hn, rfl⟩
set_option maxRecDepth 10000 in
set_option maxHeartbeats 2000000 in
theorem implLastValue (xs : List Txn) (key v : Int) (A : Option Addr) (c : Nat) (w : World) (hv : histV xs = true) (hk0 : 0 ≤ key) (hk1 : key ≤ 1000000) (hv0 : 0 ≤ v) (hv1 : v ≤ 1000000) (hA : Row tTxn w (Old w) A xs) :
    Calls Tryz.prog 140 #[.slice A xs.length c, .int .i64 key, .int .i64 v] w fun e w' => e = .returned (.bool (lastB xs key v)) ∧ Below w.heap.size w w' := by
  have HW := hide (implWriterOf xs key v A c w hv hk0 hk1 hv0 hv1 hA)
  have h6 : xs.length ≤ 6 := (histV_parts hv).1
  cases hwr : wrN xs key v with
  | none =>
    have HR := hide (show lastB xs key v = false by unfold lastB; rw [hwr])
    rw [show wrI xs key v = -1 by unfold wrI; rw [hwr]; rfl] at HW
    clear hA hwr hv
    go_enter Tryz.func140, Tryz.ntmps140
    go_wp2_with (go_at_call 90; refine HW.out.mono ?_; rintro e w1 ⟨rfl, hb1⟩; have HB1 := hide hb1; clear hb1)
    go_ret
    exact ⟨ret_bool HR.out.symm, HB1.out⟩
  | some n =>
    obtain ⟨m, rfl, hm, _⟩ := wrN_some hwr
    have HR := hide (last_any hv hwr)
    rw [opsOf_nat hm] at HR
    rw [show wrI xs key v = (m : Int) by unfold wrI; rw [hwr]; rfl] at HW
    obtain ⟨hok, ho6⟩ := txnOk_parts ((histV_parts hv).2 _ (List.getElem_mem hm))
    have HLw := hide (fun (A2 : Option Addr) (c2 : Nat) (W : World) (hr : Row tOp W (Old W) A2 xs[m].Ops) => implLastWrites xs[m] A2 c2 W ho6 hok hr)
    have HLl := hide (lastWs_len xs[m].Ops)
    have hmi : (m : Int) < (xs.length : Int) := by omega
    have hm0 : (0 : Int) ≤ (m : Int) := by omega
    have HA := hide hA
    obtain ⟨b, off, A2, c2, rfl, hbS, _⟩ := at_Txn hA (Below.refl _ w) hm
    clear hA hwr hv
    go_enter Tryz.func140, Tryz.ntmps140
    go_wp2_with (first | (go_at_call 90; refine HW.out.mono ?_; rintro e w1 ⟨rfl, hb1⟩; obtain ⟨b', off', A2, c2, he, hbS, d0, d1, d3, hj1, hj2, hj3⟩ := at_Txn HA.out hb1 hm; obtain ⟨rfl, rfl⟩ : b = b' ∧ off = off' := (by simpa using he); have HLw1 := hide (HLw.out A2 c2 w1 hj3); have HB1 := hide hb1; clear hb1 he hj3) | (go_at_call 145; refine HLw1.out.mono ?_; rintro e w2 ⟨v2, rfl, hO2, hb2⟩; obtain ⟨A3, c3, rfl, h31, h32, h33⟩ := hO2.sl; have HR3 := hide (h33.mono (S' := Old w2) (fun b h => h.2) (fun _ _ => rfl)); have HB2 := hide (HB1.out.trans (hb2.mono HB1.out.size)); clear hb2 hO2 h33) | (go_at_call 163; refine (contains_W (lastWs xs[m].Ops) key v A3 c3 w2 (by have := HLl.out; omega) HR3.out).mono ?_; rintro e w3 ⟨rfl, hb3⟩; have HB3 := hide (HB2.out.trans (hb3.mono HB2.out.size)); clear hb3))
    go_ret
    exact ⟨ret_bool HR.out, HB3.out⟩
set_option maxRecDepth 10000 in
set_option maxHeartbeats 4000000 in
theorem implBadKind (xs : List Txn) (n : Int) (o : Op) (A : Option Addr) (c : Nat) (w : World) (hv : histV xs = true) (ho : opOk o = true) (hA : Row tTxn w (Old w) A xs) :
    Calls Tryz.prog 118 #[.slice A xs.length c, .int .i64 n, .agg #[.int .i64 o.Kind, .int .i64 o.Key, .int .i64 o.Value]] w fun e w' => e = .returned (.int .i64 (kindB xs n o)) ∧ Below w.heap.size w w' := by
  have hop := opOk_parts ho
  have h6 : xs.length ≤ 6 := (histV_parts hv).1
  obtain ⟨W0, hW0⟩ : ∃ W0, W0 = w.alloc (.cells #[.int .i64 o.Kind, .int .i64 o.Key, .int .i64 o.Value] 82) := ⟨_, rfl⟩
  have HX0 := hide (show Blk W0 w.heap.size 82 #[.int .i64 o.Kind, .int .i64 o.Key, .int .i64 o.Value] by rw [hW0]; exact Blk.new w _ _)
  have HB0 := hide (show Below w.heap.size w W0 by rw [hW0]; exact (Below.refl _ w).alloc (Nat.le_refl _) _)
  have HWr := hide (fun (W : World) (hb : Below w.heap.size w W) => implWriterOf xs o.Key o.Value A c W hv (by omega) (by omega) (by omega) (by omega) (hA.old hb))
  have HLv := hide (fun (W : World) (hb : Below w.heap.size w W) => implLastValue xs o.Key o.Value A c W hv (by omega) (by omega) (by omega) (by omega) (hA.old hb))
  have HRd := hide (fun W => reads_any o W)
  have HK := hide (show kindB xs n o = (if (!(o.Kind == 1) || o.Value == 0 || wrI xs o.Key o.Value == n) then 0 else if wrI xs o.Key o.Value < 0 then 1 else if dneOf xs (wrI xs o.Key o.Value) then (if lastB xs o.Key o.Value then 0 else 3) else 2) from rfl)
  have HA := hide hA
  have HC := hide (wr_two xs o.Key o.Value)
  obtain ⟨kd, ky, vl⟩ := o
  dsimp only at *
  clear hA hv ho
  generalize lastB xs ky vl = lb at HLv HK
  cases hkd : (kd == 1) with
  | false =>
    have HR := hide (show kindB xs n ⟨kd, ky, vl⟩ = 0 by rw [HK.out, hkd]; rfl)
    rw [hkd] at HRd
    have hkd0 := hide hkd
    clear hkd
    clear HK
    go_enter Tryz.func118, Tryz.ntmps118
    go_upto_region 1 with (fail)
    rw [← hW0]
    clear hW0
    have x0 := HX0.out.cell 0; have x1 := HX0.out.cell 1; have x2 := HX0.out.cell 2
    simp only [List.getElem?_toArray, List.getElem?_cons_zero, List.getElem?_cons_succ] at x0 x1 x2
    go_wp2_with (first | (go_at_call 90; refine (HWr.out _ HB0.out).mono ?_; rintro e w1 ⟨rfl, hb1⟩; have HX1 := hide (HX0.out.below hb1 HX0.out.lt); have HB1 := hide (HB0.out.trans (hb1.mono HB0.out.size)); have y0 := HX1.out.cell 0; have y1 := HX1.out.cell 1; have y2 := HX1.out.cell 2; simp only [List.getElem?_toArray, List.getElem?_cons_zero, List.getElem?_cons_succ] at y0 y1 y2; clear hb1 x0 x1 x2) | (go_at_call 119; refine (HRd.out _).mono ?_; rintro e w2 ⟨rfl, hb2⟩; have HX2 := hide (HX1.out.below hb2 HX1.out.lt); have HBx := hide (HB1.out.trans (hb2.mono HB1.out.size)); have z0 := HX2.out.cell 0; have z1 := HX2.out.cell 1; have z2 := HX2.out.cell 2; simp only [List.getElem?_toArray, List.getElem?_cons_zero, List.getElem?_cons_succ] at z0 z1 z2; clear hb2))
    go_ret
    exact ⟨ret_int HR.out.symm, by first | exact HB3.out | exact HBx.out⟩
  | true =>
    rw [hkd] at HRd
    have hkd0 := hide hkd
    clear hkd
    by_cases hv0 : vl = 0
    · subst hv0
      have HR := hide (show kindB xs n ⟨kd, ky, 0⟩ = 0 by rw [HK.out]; simp)
      clear HK
      go_enter Tryz.func118, Tryz.ntmps118
      go_upto_region 1 with (fail)
      rw [← hW0]
      clear hW0
      have x0 := HX0.out.cell 0; have x1 := HX0.out.cell 1; have x2 := HX0.out.cell 2
      simp only [List.getElem?_toArray, List.getElem?_cons_zero, List.getElem?_cons_succ] at x0 x1 x2
      go_wp2_with (first | (go_at_call 90; refine (HWr.out _ HB0.out).mono ?_; rintro e w1 ⟨rfl, hb1⟩; have HX1 := hide (HX0.out.below hb1 HX0.out.lt); have HB1 := hide (HB0.out.trans (hb1.mono HB0.out.size)); have y0 := HX1.out.cell 0; have y1 := HX1.out.cell 1; have y2 := HX1.out.cell 2; simp only [List.getElem?_toArray, List.getElem?_cons_zero, List.getElem?_cons_succ] at y0 y1 y2; clear hb1 x0 x1 x2) | (go_at_call 119; refine (HRd.out _).mono ?_; rintro e w2 ⟨rfl, hb2⟩; have HX2 := hide (HX1.out.below hb2 HX1.out.lt); have HBx := hide (HB1.out.trans (hb2.mono HB1.out.size)); have z0 := HX2.out.cell 0; have z1 := HX2.out.cell 1; have z2 := HX2.out.cell 2; simp only [List.getElem?_toArray, List.getElem?_cons_zero, List.getElem?_cons_succ] at z0 z1 z2; clear hb2))
      go_ret
      exact ⟨ret_int HR.out.symm, by first | exact HB3.out | exact HBx.out⟩
    · have hvb : (vl == 0) = false := by rw [beq_eq_false_iff_ne]; exact hv0
      rcases HC.out with hw | ⟨m, hm, hw⟩
      · by_cases hn : n = -1
        · have HR := hide (show kindB xs n ⟨kd, ky, vl⟩ = 0 by rw [HK.out, hw, hn]; simp)
          rw [hw] at HWr
          have hwb : ((-1 : Int) == n) = true := by rw [hn]; rfl
          clear HK hw hv0
          go_enter Tryz.func118, Tryz.ntmps118
          go_upto_region 1 with (fail)
          rw [← hW0]
          clear hW0
          have x0 := HX0.out.cell 0; have x1 := HX0.out.cell 1; have x2 := HX0.out.cell 2
          simp only [List.getElem?_toArray, List.getElem?_cons_zero, List.getElem?_cons_succ] at x0 x1 x2
          go_wp2_with (first | (go_at_call 90; refine (HWr.out _ HB0.out).mono ?_; rintro e w1 ⟨rfl, hb1⟩; have HX1 := hide (HX0.out.below hb1 HX0.out.lt); have HB1 := hide (HB0.out.trans (hb1.mono HB0.out.size)); have y0 := HX1.out.cell 0; have y1 := HX1.out.cell 1; have y2 := HX1.out.cell 2; simp only [List.getElem?_toArray, List.getElem?_cons_zero, List.getElem?_cons_succ] at y0 y1 y2; clear hb1 x0 x1 x2) | (go_at_call 119; refine (HRd.out _).mono ?_; rintro e w2 ⟨rfl, hb2⟩; have HX2 := hide (HX1.out.below hb2 HX1.out.lt); have HBx := hide (HB1.out.trans (hb2.mono HB1.out.size)); have z0 := HX2.out.cell 0; have z1 := HX2.out.cell 1; have z2 := HX2.out.cell 2; simp only [List.getElem?_toArray, List.getElem?_cons_zero, List.getElem?_cons_succ] at z0 z1 z2; clear hb2))
          go_ret
          exact ⟨ret_int HR.out.symm, by first | exact HB3.out | exact HBx.out⟩
        · have HR := hide (show kindB xs n ⟨kd, ky, vl⟩ = 1 by rw [HK.out, hw, hkd0.out, hvb, if_neg (by simp; omega), if_pos (by decide)])
          rw [hw] at HWr
          have hwb : ((-1 : Int) == n) = false := by rw [beq_eq_false_iff_ne]; omega
          clear HK hw hv0
          go_enter Tryz.func118, Tryz.ntmps118
          go_upto_region 1 with (fail)
          rw [← hW0]
          clear hW0
          have x0 := HX0.out.cell 0; have x1 := HX0.out.cell 1; have x2 := HX0.out.cell 2
          simp only [List.getElem?_toArray, List.getElem?_cons_zero, List.getElem?_cons_succ] at x0 x1 x2
          go_wp2_with (first | (go_at_call 90; refine (HWr.out _ HB0.out).mono ?_; rintro e w1 ⟨rfl, hb1⟩; have HX1 := hide (HX0.out.below hb1 HX0.out.lt); have HB1 := hide (HB0.out.trans (hb1.mono HB0.out.size)); have y0 := HX1.out.cell 0; have y1 := HX1.out.cell 1; have y2 := HX1.out.cell 2; simp only [List.getElem?_toArray, List.getElem?_cons_zero, List.getElem?_cons_succ] at y0 y1 y2; clear hb1 x0 x1 x2) | (go_at_call 119; refine (HRd.out _).mono ?_; rintro e w2 ⟨rfl, hb2⟩; have HX2 := hide (HX1.out.below hb2 HX1.out.lt); have HBx := hide (HB1.out.trans (hb2.mono HB1.out.size)); have z0 := HX2.out.cell 0; have z1 := HX2.out.cell 1; have z2 := HX2.out.cell 2; simp only [List.getElem?_toArray, List.getElem?_cons_zero, List.getElem?_cons_succ] at z0 z1 z2; clear hb2))
          go_ret
          exact ⟨ret_int HR.out.symm, by first | exact HB3.out | exact HBx.out⟩
      · by_cases hn : (m : Int) = n
        · have HR := hide (show kindB xs n ⟨kd, ky, vl⟩ = 0 by rw [HK.out, hw, hn]; simp)
          rw [hw] at HWr
          have hwb : ((m : Int) == n) = true := by rw [hn]; simp
          clear HK hw hv0
          go_enter Tryz.func118, Tryz.ntmps118
          go_upto_region 1 with (fail)
          rw [← hW0]
          clear hW0
          have x0 := HX0.out.cell 0; have x1 := HX0.out.cell 1; have x2 := HX0.out.cell 2
          simp only [List.getElem?_toArray, List.getElem?_cons_zero, List.getElem?_cons_succ] at x0 x1 x2
          go_wp2_with (first | (go_at_call 90; refine (HWr.out _ HB0.out).mono ?_; rintro e w1 ⟨rfl, hb1⟩; have HX1 := hide (HX0.out.below hb1 HX0.out.lt); have HB1 := hide (HB0.out.trans (hb1.mono HB0.out.size)); have y0 := HX1.out.cell 0; have y1 := HX1.out.cell 1; have y2 := HX1.out.cell 2; simp only [List.getElem?_toArray, List.getElem?_cons_zero, List.getElem?_cons_succ] at y0 y1 y2; clear hb1 x0 x1 x2) | (go_at_call 119; refine (HRd.out _).mono ?_; rintro e w2 ⟨rfl, hb2⟩; have HX2 := hide (HX1.out.below hb2 HX1.out.lt); have HBx := hide (HB1.out.trans (hb2.mono HB1.out.size)); have z0 := HX2.out.cell 0; have z1 := HX2.out.cell 1; have z2 := HX2.out.cell 2; simp only [List.getElem?_toArray, List.getElem?_cons_zero, List.getElem?_cons_succ] at z0 z1 z2; clear hb2))
          go_ret
          exact ⟨ret_int HR.out.symm, by first | exact HB3.out | exact HBx.out⟩
        · have hwb : ((m : Int) == n) = false := by rw [beq_eq_false_iff_ne]; exact hn
          have hmi : (m : Int) < (xs.length : Int) := by omega
          have hm0 : (0 : Int) ≤ (m : Int) := by omega
          have hmn : ¬ (m : Int) < 0 := by omega
          obtain ⟨b, off, A2, c2, rfl, hbS, d0, d1, d3w, _, _, _⟩ := at_Txn HA.out (Below.refl _ w) hm
          have HD := hide (show dneOf xs (m : Int) = xs[m].Done from dne_nat hm)
          rw [hw, hkd0.out, hvb, hwb, if_neg (by decide), if_neg hmn, HD.out] at HK
          rw [hw] at HWr
          clear hw hv0 d0 d1 hn HD
          cases hdn : xs[m].Done with
          | false =>
            rw [hdn] at HK d3w
            have HR := hide (show kindB xs n ⟨kd, ky, vl⟩ = 2 from HK.out.trans rfl)
            clear HK hdn
            go_enter Tryz.func118, Tryz.ntmps118
            go_upto_region 1 with (fail)
            rw [← hW0]
            clear hW0
            have x0 := HX0.out.cell 0; have x1 := HX0.out.cell 1; have x2 := HX0.out.cell 2
            simp only [List.getElem?_toArray, List.getElem?_cons_zero, List.getElem?_cons_succ] at x0 x1 x2
            go_wp2_with (first | (go_at_call 90; refine (HWr.out _ HB0.out).mono ?_; rintro e w1 ⟨rfl, hb1⟩; have HX1 := hide (HX0.out.below hb1 HX0.out.lt); have HB1 := hide (HB0.out.trans (hb1.mono HB0.out.size)); have y0 := HX1.out.cell 0; have y1 := HX1.out.cell 1; have y2 := HX1.out.cell 2; simp only [List.getElem?_toArray, List.getElem?_cons_zero, List.getElem?_cons_succ] at y0 y1 y2; clear hb1 x0 x1 x2) | (go_at_call 119; refine (HRd.out _).mono ?_; rintro e w2 ⟨rfl, hb2⟩; have HX2 := hide (HX1.out.below hb2 HX1.out.lt); have HBx := hide (HB1.out.trans (hb2.mono HB1.out.size)); have z0 := HX2.out.cell 0; have z1 := HX2.out.cell 1; have z2 := HX2.out.cell 2; simp only [List.getElem?_toArray, List.getElem?_cons_zero, List.getElem?_cons_succ] at z0 z1 z2; have d3 := (HBx.out.cell (p := ⟨b, off + m * 3 + 2, none⟩) hbS).trans d3w; clear hb2) | (go_at_call 140; refine (HLv.out _ HBx.out).mono ?_; rintro e w3 ⟨rfl, hb3⟩; have HB3 := hide (HBx.out.trans (hb3.mono HBx.out.size)); clear hb3))
            go_ret
            exact ⟨ret_int HR.out.symm, by first | exact HB3.out | exact HBx.out⟩
          | true =>
            rw [hdn] at HK d3w
            clear hdn
            cases lb with
            | true =>
              have HR := hide (show kindB xs n ⟨kd, ky, vl⟩ = 0 from HK.out.trans rfl)
              clear HK
              go_enter Tryz.func118, Tryz.ntmps118
              go_upto_region 1 with (fail)
              rw [← hW0]
              clear hW0
              have x0 := HX0.out.cell 0; have x1 := HX0.out.cell 1; have x2 := HX0.out.cell 2
              simp only [List.getElem?_toArray, List.getElem?_cons_zero, List.getElem?_cons_succ] at x0 x1 x2
              go_wp2_with (first | (go_at_call 90; refine (HWr.out _ HB0.out).mono ?_; rintro e w1 ⟨rfl, hb1⟩; have HX1 := hide (HX0.out.below hb1 HX0.out.lt); have HB1 := hide (HB0.out.trans (hb1.mono HB0.out.size)); have y0 := HX1.out.cell 0; have y1 := HX1.out.cell 1; have y2 := HX1.out.cell 2; simp only [List.getElem?_toArray, List.getElem?_cons_zero, List.getElem?_cons_succ] at y0 y1 y2; clear hb1 x0 x1 x2) | (go_at_call 119; refine (HRd.out _).mono ?_; rintro e w2 ⟨rfl, hb2⟩; have HX2 := hide (HX1.out.below hb2 HX1.out.lt); have HBx := hide (HB1.out.trans (hb2.mono HB1.out.size)); have z0 := HX2.out.cell 0; have z1 := HX2.out.cell 1; have z2 := HX2.out.cell 2; simp only [List.getElem?_toArray, List.getElem?_cons_zero, List.getElem?_cons_succ] at z0 z1 z2; have d3 := (HBx.out.cell (p := ⟨b, off + m * 3 + 2, none⟩) hbS).trans d3w; clear hb2) | (go_at_call 140; refine (HLv.out _ HBx.out).mono ?_; rintro e w3 ⟨rfl, hb3⟩; have HB3 := hide (HBx.out.trans (hb3.mono HBx.out.size)); clear hb3))
              go_ret
              exact ⟨ret_int HR.out.symm, by first | exact HB3.out | exact HBx.out⟩
            | false =>
              have HR := hide (show kindB xs n ⟨kd, ky, vl⟩ = 3 from HK.out.trans rfl)
              clear HK
              go_enter Tryz.func118, Tryz.ntmps118
              go_upto_region 1 with (fail)
              rw [← hW0]
              clear hW0
              have x0 := HX0.out.cell 0; have x1 := HX0.out.cell 1; have x2 := HX0.out.cell 2
              simp only [List.getElem?_toArray, List.getElem?_cons_zero, List.getElem?_cons_succ] at x0 x1 x2
              go_wp2_with (first | (go_at_call 90; refine (HWr.out _ HB0.out).mono ?_; rintro e w1 ⟨rfl, hb1⟩; have HX1 := hide (HX0.out.below hb1 HX0.out.lt); have HB1 := hide (HB0.out.trans (hb1.mono HB0.out.size)); have y0 := HX1.out.cell 0; have y1 := HX1.out.cell 1; have y2 := HX1.out.cell 2; simp only [List.getElem?_toArray, List.getElem?_cons_zero, List.getElem?_cons_succ] at y0 y1 y2; clear hb1 x0 x1 x2) | (go_at_call 119; refine (HRd.out _).mono ?_; rintro e w2 ⟨rfl, hb2⟩; have HX2 := hide (HX1.out.below hb2 HX1.out.lt); have HBx := hide (HB1.out.trans (hb2.mono HB1.out.size)); have z0 := HX2.out.cell 0; have z1 := HX2.out.cell 1; have z2 := HX2.out.cell 2; simp only [List.getElem?_toArray, List.getElem?_cons_zero, List.getElem?_cons_succ] at z0 z1 z2; have d3 := (HBx.out.cell (p := ⟨b, off + m * 3 + 2, none⟩) hbS).trans d3w; clear hb2) | (go_at_call 140; refine (HLv.out _ HBx.out).mono ?_; rintro e w3 ⟨rfl, hb3⟩; have HB3 := hide (HBx.out.trans (hb3.mono HBx.out.size)); clear hb3))
              go_ret
              exact ⟨ret_int HR.out.symm, by first | exact HB3.out | exact HBx.out⟩
set_option maxRecDepth 10000 in
set_option maxHeartbeats 4000000 in
theorem implEarly (t : Txn) (A : Option Addr) (c : Nat) (w : World) (h6 : t.Ops.length ≤ 6) (hc : t.Ops.length ≤ c) (hcm : c ≤ maxLen) (hA : Row tOp w (Old w) A t.Ops) :
    Calls Tryz.prog 82 #[.agg #[.int .i64 t.Session, .slice A t.Ops.length c, .bool t.Done]] w fun e w' => e = .returned (.bool (earlyB t.Ops)) ∧ Below w.heap.size w w' := by
  have HA := hide hA
  have hcq : c ≤ 9223372036854775807 := by simpa [maxLen] using hcm
  obtain ⟨s, ops, dn⟩ := t
  dsimp only at *
  have hq : ops.length ≤ 9223372036854775807 := by omega
  have HE := hide (early_iff (ops := ops))
  have HX0 := hide (Blk.new w 57 #[.int .i64 s, .slice A ops.length c, .bool dn])
  have HB0 := hide ((Below.refl _ w).alloc (Nat.le_refl _) (.cells #[.int .i64 s, .slice A ops.length c, .bool dn] 57))
  clear hA hcm
  go_enter Tryz.func82, Tryz.ntmps82
  go_wp2_with fail
  go_loopw [3, 4, 6, 10] (fun _ _ _ i wr => ∃ k : Nat, k ≤ ops.length ∧ i = .int .i64 k ∧ Hid (∀ i j, ∀ hi : i < ops.length, ∀ hj : j < ops.length, i < k → i < j → ops[i].Kind = 1 → isW ops[i].Key ops[i].Value ops[j] = false) ∧ Hid (Blk wr w.heap.size 57 #[.int .i64 s, .slice A ops.length c, .bool dn]) ∧ Hid (Below w.heap.size w wr)) (fun _ _ _ i _ => ops.length - (intOf i).toNat)
  case atStart => exact ⟨0, Nat.zero_le _, rfl, fun i j hi hj h => absurd h (by omega), HX0.out, HB0.out⟩
  case round =>
    obtain ⟨k, hk, rfl, hI, hX, hb⟩ := hrel
    have HI := hide hI.out; have HX := hide hX.out; have HB := hide hb.out
    clear hI hX hb HX0 HB0
    by_cases hlt : k < ops.length
    · obtain ⟨b, off, rfl, hbS, d0, d1, d2⟩ := at_Op HA.out HB.out hlt
      have hki : (k : Int) < (ops.length : Int) := by omega
      have hks : IntKind.i64.wrap ((k : Int) + 1) = (k : Int) + 1 := by rw [IntKind.wrap_i64]; omega
      have hk1 : (k : Int) + 1 ≤ (ops.length : Int) := by omega
      have hk2 : (0 : Int) ≤ (k : Int) + 1 := by omega
      have hk3 : (k : Int) + 1 ≤ (c : Int) := by omega
      obtain ⟨A2, hA2, hrow2⟩ : ∃ A2 : Option Addr, (if c = k + 1 then (some ⟨b, off, none⟩ : Option Addr) else some ⟨b, off + (k + 1) * 3, none⟩) = A2 ∧ Row tOp w (Old w) A2 (ops.drop (k + 1)) := by
        refine ⟨_, rfl, ?_⟩
        split
        · rw [List.drop_of_length_le (by omega)]; exact Row.nil
        · have := HA.out.cut (k + 1)
          simpa [Addr.add, tOp, flat] using this
      have HR2 := hide hrow2
      have hbl : b < wr.heap.size := Nat.lt_of_lt_of_le hbS HB.out.size
      have HXo := hide (Blk.new wr 82 #[.int .i64 ops[k].Kind, .int .i64 ops[k].Key, .int .i64 ops[k].Value])
      have HX1 := hide (HX.out.alloc (.cells #[.int .i64 ops[k].Kind, .int .i64 ops[k].Key, .int .i64 ops[k].Value] 82))
      have HB1 := hide (HB.out.alloc HB.out.size (.cells #[.int .i64 ops[k].Kind, .int .i64 ops[k].Key, .int .i64 ops[k].Value] 82))
      have HDl := hide (show (ops.drop (k + 1)).length = ops.length - (k + 1) from List.length_drop)
      have HDg := hide (fun (l : Nat) (hl : k + 1 + l < ops.length) => show ∀ h, (ops.drop (k + 1))[l]'h = ops[k + 1 + l] from fun h => List.getElem_drop)
      clear hrow2
      go_upto_region 4 with (fail)
      generalize hW : World.alloc _ _ = W at HXo HX1 HB1 ⊢
      have x0 := HX1.out.cell 0; have x1 := HX1.out.cell 1; have x2 := HX1.out.cell 2
      simp only [List.getElem?_toArray, List.getElem?_cons_zero, List.getElem?_cons_succ] at x0 x1 x2
      obtain ⟨bo, hbo⟩ : ∃ bo, bo = wr.heap.size := ⟨_, rfl⟩
      rw [← hbo] at HXo ⊢
      clear hW hbo d0 d1 d2 HX HB hbl
      go_upto_region 5 with (fail)
      clear x0 x1 x2
      generalize hE9 : (ops.length : Int) - ((k : Int) + 1) = E9
      have hE : E9 = ((ops.length - (k + 1) : Nat) : Int) := by omega
      clear hE9
      go_loopw [6, 21] (fun _ i wq => ∃ l : Nat, l ≤ ops.length - (k + 1) ∧ i = .int .i64 l ∧ Hid (∀ j, ∀ hj : j < ops.length, k < j → j < k + 1 + l → ops[k].Kind = 1 → isW ops[k].Key ops[k].Value ops[j] = false) ∧ Hid (Below W.heap.size W wq)) (fun _ i _ => ops.length - (k + 1) - (intOf i).toNat)
      case atStart => exact ⟨0, Nat.zero_le _, rfl, fun j hj h1 h2 => absurd h2 (by omega), Below.refl _ _⟩
      case round =>
        obtain ⟨l, hl, rfl, hJ, hbq⟩ := hrel
        have HJ := hide hJ.out; have HBq := hide hbq.out
        clear hJ hbq
        by_cases hlt2 : l < ops.length - (k + 1)
        · have hdl : l < (ops.drop (k + 1)).length := by rw [HDl.out]; exact hlt2
          have hk9 : k + 1 + l < ops.length := by omega
          have HBw := hide (HB1.out.trans (HBq.out.mono HB1.out.size))
          obtain ⟨b2, off2, hA2e, hbS2, e0, e1, e2⟩ := at_Op HR2.out HBw.out hdl
          subst hA2e
          rw [HDg.out l hk9] at e0 e1 e2
          have hli : (l : Int) < E9 := by omega
          have hX2 := HXo.out.below HBq.out HXo.out.lt
          have HX2 := hide (hX2.alloc (.cells #[.int .i64 ops[k + 1 + l].Kind, .int .i64 ops[k + 1 + l].Key, .int .i64 ops[k + 1 + l].Value] 82))
          have HX3 := hide (Blk.new wr 82 #[.int .i64 ops[k + 1 + l].Kind, .int .i64 ops[k + 1 + l].Key, .int .i64 ops[k + 1 + l].Value])
          have HB2 := hide (HBw.out.alloc HBw.out.size (.cells #[.int .i64 ops[k + 1 + l].Kind, .int .i64 ops[k + 1 + l].Key, .int .i64 ops[k + 1 + l].Value] 82))
          have HB3 := hide (HBq.out.alloc HBq.out.size (.cells #[.int .i64 ops[k + 1 + l].Kind, .int .i64 ops[k + 1 + l].Key, .int .i64 ops[k + 1 + l].Value] 82))
          have HYes := hide (fun (h1 : ops[k].Kind = 1) (h2 : isW ops[k].Key ops[k].Value ops[k + 1 + l] = true) => show earlyB ops = true from HE.out.2 ⟨k, k + 1 + l, hlt, hk9, by omega, h1, h2⟩)
          have HNo := hide (fun (hno : ops[k].Kind = 1 → isW ops[k].Key ops[k].Value ops[k + 1 + l] = false) => show ∀ j, ∀ hj : j < ops.length, k < j → j < k + 1 + (l + 1) → ops[k].Kind = 1 → isW ops[k].Key ops[k].Value ops[j] = false from fun j hj h1 h2 h3 => by
            by_cases h4 : j = k + 1 + l
            · subst h4; exact hno h3
            · exact HJ.out j hj h1 (by omega) h3)
          have HRd := hide (fun W => reads_any ops[k] W)
          obtain ⟨bl, hbl⟩ : ∃ bl, bl = wr.heap.size := ⟨_, rfl⟩
          have hbo2 : bo ≠ bl := by have := hX2.lt; omega
          clear hX2
          generalize ops[k + 1 + l] = o2 at e0 e1 e2 HX2 HX3 HB2 HB3 HYes HNo
          generalize ops[k] = o1 at HX2 HYes HNo HRd HXo
          obtain ⟨k1, y1, v1⟩ := o1
          obtain ⟨k2, y2, v2⟩ := o2
          dsimp only at *
          go_upto_region 7 with (fail)
          generalize hW : World.alloc _ _ = W2 at HX2 HX3 HB2 HB3 ⊢
          rw [← hbl] at HX3 ⊢
          clear hW hbl
          have x0 := HX2.out.cell 0; have x1 := HX2.out.cell 1; have x2 := HX2.out.cell 2
          simp only [List.getElem?_toArray, List.getElem?_cons_zero, List.getElem?_cons_succ] at x0 x1 x2
          clear e0 e1 e2
          cases hkd : (k1 == 1) with
          | false =>
            have HF := hide (HNo.out (fun h => by rw [h] at hkd; cases hkd))
            rw [hkd] at HRd
            clear hkd
            go_wp2_with (go_at_call 119; refine (HRd.out _).mono ?_; rintro e w3 ⟨rfl, hb3⟩; have HB4 := hide (HB3.out.trans (hb3.mono HB3.out.size)); clear hb3)
            go_roundw
            case rel => exact ⟨l + 1, by omega, by go_num, HF.out, HB4.out⟩
            case measure => simp [intOf]; omega
          | true =>
            have HK1 := hide (show k1 = 1 by simpa using hkd)
            rw [hkd] at HRd
            clear hkd
            by_cases q0 : k2 = 2
            · subst q0
              by_cases q1 : y2 = y1
              · subst q1
                by_cases q2 : v2 = v1
                · subst q2
                  have HF := hide (HYes.out HK1.out (by simp [isW]))
                  go_wp2_with (go_at_call 119; refine (HRd.out _).mono ?_; rintro e w3 ⟨rfl, hb3⟩; have hX4 := HX2.out.below hb3 HX2.out.lt; have hX5 := HX3.out.below hb3 HX3.out.lt; have HB4 := hide (HB3.out.trans (hb3.mono HB3.out.size)); have HB5 := hide (HB2.out.trans (hb3.mono HB2.out.size)); have y0 := hX4.cell 0; have y1 := hX4.cell 1; have y2 := hX4.cell 2; have z0 := hX5.cell 0; have z1 := hX5.cell 1; have z2 := hX5.cell 2; simp only [List.getElem?_toArray, List.getElem?_cons_zero, List.getElem?_cons_succ] at y0 y1 y2 z0 z1 z2; clear hb3 hX4 hX5 x0 x1 x2)
                  go_ret
                  exact ⟨ret_bool HF.out.symm, HB5.out⟩
                · have r2 : (v2 == v1) = false := by rw [beq_eq_false_iff_ne]; exact q2
                  have HF := hide (HNo.out (fun _ => by simp [isW]; exact q2))
                  go_wp2_with (go_at_call 119; refine (HRd.out _).mono ?_; rintro e w3 ⟨rfl, hb3⟩; have hX4 := HX2.out.below hb3 HX2.out.lt; have hX5 := HX3.out.below hb3 HX3.out.lt; have HB4 := hide (HB3.out.trans (hb3.mono HB3.out.size)); have HB5 := hide (HB2.out.trans (hb3.mono HB2.out.size)); have y0 := hX4.cell 0; have y1 := hX4.cell 1; have y2 := hX4.cell 2; have z0 := hX5.cell 0; have z1 := hX5.cell 1; have z2 := hX5.cell 2; simp only [List.getElem?_toArray, List.getElem?_cons_zero, List.getElem?_cons_succ] at y0 y1 y2 z0 z1 z2; clear hb3 hX4 hX5 x0 x1 x2)
                  go_roundw
                  case rel => exact ⟨l + 1, by omega, by go_num, HF.out, HB4.out⟩
                  case measure => simp [intOf]; omega
              · have r2 : (y2 == y1) = false := by rw [beq_eq_false_iff_ne]; exact q1
                have HF := hide (HNo.out (fun _ => by simp [isW, q1]))
                go_wp2_with (go_at_call 119; refine (HRd.out _).mono ?_; rintro e w3 ⟨rfl, hb3⟩; have hX4 := HX2.out.below hb3 HX2.out.lt; have hX5 := HX3.out.below hb3 HX3.out.lt; have HB4 := hide (HB3.out.trans (hb3.mono HB3.out.size)); have HB5 := hide (HB2.out.trans (hb3.mono HB2.out.size)); have y0 := hX4.cell 0; have y1 := hX4.cell 1; have y2 := hX4.cell 2; have z0 := hX5.cell 0; have z1 := hX5.cell 1; have z2 := hX5.cell 2; simp only [List.getElem?_toArray, List.getElem?_cons_zero, List.getElem?_cons_succ] at y0 y1 y2 z0 z1 z2; clear hb3 hX4 hX5 x0 x1 x2)
                go_roundw
                case rel => exact ⟨l + 1, by omega, by go_num, HF.out, HB4.out⟩
                case measure => simp [intOf]; omega
            · have r2 : (k2 == 2) = false := by rw [beq_eq_false_iff_ne]; exact q0
              have HF := hide (HNo.out (fun _ => by simp [isW, q0]))
              go_wp2_with (go_at_call 119; refine (HRd.out _).mono ?_; rintro e w3 ⟨rfl, hb3⟩; have hX4 := HX2.out.below hb3 HX2.out.lt; have hX5 := HX3.out.below hb3 HX3.out.lt; have HB4 := hide (HB3.out.trans (hb3.mono HB3.out.size)); have HB5 := hide (HB2.out.trans (hb3.mono HB2.out.size)); have y0 := hX4.cell 0; have y1 := hX4.cell 1; have y2 := hX4.cell 2; have z0 := hX5.cell 0; have z1 := hX5.cell 1; have z2 := hX5.cell 2; simp only [List.getElem?_toArray, List.getElem?_cons_zero, List.getElem?_cons_succ] at y0 y1 y2 z0 z1 z2; clear hb3 hX4 hX5 x0 x1 x2)
              go_roundw
              case rel => exact ⟨l + 1, by omega, by go_num, HF.out, HB4.out⟩
              case measure => simp [intOf]; omega
        · have HF := hide (show ∀ i j, ∀ hi : i < ops.length, ∀ hj : j < ops.length, i < k + 1 → i < j → ops[i].Kind = 1 → isW ops[i].Key ops[i].Value ops[j] = false from fun i j hi hj h1 h2 h3 => by
            rcases Nat.lt_succ_iff_lt_or_eq.1 h1 with h4 | rfl
            · exact HI.out i j hi hj h4 h2 h3
            · exact HJ.out j hj h2 (by omega) h3)
          have hX2 := hide (HX1.out.below HBq.out HX1.out.lt)
          have hnl : ¬ (l : Int) < E9 := by omega
          go_wp2_with fail
          go_roundw
          case rel => exact ⟨k + 1, by omega, by go_num, HF.out, hX2.out, HB1.out.trans (HBq.out.mono HB1.out.size)⟩
          case measure => simp [intOf]; omega
    · have HF := hide (show earlyB ops = false by
        cases he : earlyB ops with
        | false => rfl
        | true =>
          obtain ⟨i, j, hi, hj, h1, h2, h3⟩ := HE.out.1 he
          rw [HI.out i j hi hj (by omega) h1 h2] at h3; cases h3)
      have hnk : ¬ (k : Int) < (ops.length : Int) := by omega
      go_wp2_with fail
      go_ret
      exact ⟨ret_bool HF.out.symm, HB.out⟩
set_option maxRecDepth 10000 in
set_option maxHeartbeats 4000000 in
theorem implBadK (xs : List Txn) (kind : Int) (A : Option Addr) (c : Nat) (w : World) (hv : histV xs = true) (hkd : 1 ≤ kind ∧ kind ≤ 3) (hA : Row tTxn w (Old w) A xs) :
    Calls Tryz.prog 81 #[.slice A xs.length c, .int .i64 kind] w fun e w' => ∃ v, e = .returned v ∧ Sl tSpan w' (New w w') (badR xs kind) v ∧ Below w.heap.size w w' := by
  obtain ⟨i0, hi, hz0, hz1, hz2⟩ := info_parts infoPlace_
  have hx6 : xs.length ≤ 6 := (histV_parts hv).1
  have hmk : ∀ (W : World), (Instr.makeSlice 78 (.int .i64 0) (.int .i64 0)).run Tryz.prog W = .ok (.slice (some ⟨W.heap.size, 0, none⟩) 0 0) (W.alloc (.cells (madeCells (Value.cells (.agg #[.int .i64 0, .int .i64 0])) (0 * 2)) 114)) := fun W => by
    have h := run_make_rowN (P := Tryz.prog) 78 114 i0 _ Tryz.underlying78 hi hz0 .i64 .i64 0 0 (Nat.zero_le _) (by rw [hz2]; omega) (by omega) W
    rw [hz1] at h
    exact h
  have HC1 := hide (implHistoryValid xs A c w (by simp only [maxLen]; omega) hA)
  have HDn := hide (fun (W : World) (hb : Below w.heap.size w W) => implDone xs A c W (by omega) (hA.old hb))
  have HBk := hide (fun (n : Int) (o : Op) (ho : opOk o = true) (W : World) (hb : Below w.heap.size w W) => implBadKind xs n o A c W hv ho (hA.old hb))
  have HV := hide (histV_parts hv).2
  have HLn := hide (fun l => badKs_len (h := xs) (fun t ht => (txnOk_parts ((histV_parts hv).2 t ht)).2) kind l)
  have HQ := hide (show badR xs kind = badKs xs kind (doneL xs) from rfl)
  have HA := hide hA
  have hq : xs.length ≤ 9223372036854775807 := by omega
  rw [hv] at HC1
  have HMem := hide (fun x (hx : x ∈ doneL xs) => doneI_mem xs _ x hx)
  have hdl : (doneL xs).length ≤ 6 := Nat.le_trans (doneI_len xs _) hx6
  have HWi := hide (fun W => within kind 1 4 W)
  rw [show inR kind 1 4 = true by rw [inR_iff]; omega] at HWi
  have r4 : (kind == 4) = false := by rw [beq_eq_false_iff_ne]; omega
  clear hA hv hkd
  generalize doneL xs = D at HDn HQ HMem hdl
  have hqD : D.length ≤ 9223372036854775807 := by omega
  go_enter Tryz.func81, Tryz.ntmps81
  go_upto_region 4 with (first | (go_at_call 66; refine HC1.out.mono ?_; rintro e w2 ⟨rfl, hb2⟩; have HB2 := hide hb2; clear hb2) | (go_at_call 114; refine (HWi.out _).mono ?_; rintro e w' ⟨rfl, rfl⟩))
  generalize hW : World.alloc _ _ = W
  have HB3 := hide (show Below w.heap.size w W by rw [← hW]; exact HB2.out.alloc HB2.out.size _)
  have hsW : W.heap.size = w2.heap.size + 1 := by rw [← hW]; simp
  have hw2 := HB2.out.size
  have HBk0 := hide (show Blk W w2.heap.size 114 #[] by rw [← hW]; have h0 : ∀ z : Array Value, madeCells z 0 = #[] := fun z => Array.eq_empty_of_size_eq_zero (by rw [size_madeCells]); rw [h0]; exact Blk.new w2 _ _)
  clear hW hmk
  go_wp2_with (go_at_call 70; refine (HDn.out _ HB3.out).mono ?_; rintro e w3 ⟨v3, rfl, hO3, hb3⟩; obtain ⟨A3, c3, rfl, h31, h32, _⟩ := hO3.sl; have HR3 := hide hO3.sl.row; have HB4 := hide (HB3.out.trans (hb3.mono HB3.out.size)); have HBk3 := hide (HBk0.out.below hb3 HBk0.out.lt); have hw3 := hb3.size; clear hO3 hb3)
  go_loopw [5, 7, 8, 9, 22] (fun v _ _ _ i wr => ∃ k : Nat, k ≤ D.length ∧ i = .int .i64 k ∧ Hid (Own tSpan 114 wr (fun b => (b = w2.heap.size ∨ w3.heap.size ≤ b) ∧ Old wr b) (badKs xs kind (D.take k)) v) ∧ Hid (Below w.heap.size w wr) ∧ Hid (Only (fun b => b = w2.heap.size ∨ w3.heap.size ≤ b) w3 wr)) (fun _ _ _ _ i _ => D.length - (intOf i).toNat)
  case atStart => exact ⟨0, by omega, rfl, .inr ⟨w2.heap.size, 0, #[], fun _ => False, rfl, ⟨.inl rfl, HBk3.out.lt⟩, HBk3.out, by simp [badKs], by simp [maxLen], rfl, fun _ h => h.elim, fun j hj => absurd hj (by simp [badKs])⟩, HB4.out, Only.refl _ _⟩
  case round =>
    obtain ⟨k, hk, rfl, hO, hb, hK⟩ := hrel
    have HO := hide hO.out; have HB := hide hb.out; have HK := hide hK.out
    have hR := HR3.out.mono (w' := wr) (S' := Old wr) (fun b h => Nat.lt_of_lt_of_le h.2 hK.out.size) (fun b h => hK.out.block b h.2 (by have h1 := h.1; have h2 := h.2; omega))
    clear hO hb hK HBk0 HBk3
    by_cases hlt : k < D.length
    · obtain ⟨b0, off0, hA3, hbS0, e0⟩ := at_Int hR (Below.refl _ _) hlt
      subst hA3
      obtain ⟨hn0, hn1⟩ := HMem.out _ (List.getElem_mem hlt)
      obtain ⟨n, hn⟩ : ∃ n : Nat, D[k] = (n : Int) := ⟨D[k].toNat, by omega⟩
      have hnl : n < xs.length := by omega
      have HS := hide (show badKs xs kind (D.take (k + 1)) = badKs xs kind (D.take k) ++ badO xs kind (n : Int) xs[n].Ops xs[n].Ops.length by rw [badKs_take xs kind D k hlt, hn, opsOf_nat hnl])
      have hfl : (badKs xs kind (D.take k)).length ≤ 6 * k := Nat.le_trans (HLn.out _) (by rw [List.length_take]; omega)
      rw [hn] at e0
      obtain ⟨b, off, A2, c2, hA2, hbS, d0, d1, d3, hj1, hj2, hj3⟩ := at_Txn HA.out (Below.refl _ w) hnl
      subst hA2
      have d1 := (HB.out.cell (p := ⟨b, off + n * 3 + 1, none⟩) hbS).trans d1
      have hnli : (n : Int) < (xs.length : Int) := by omega
      have htx := HV.out _ (List.getElem_mem hnl)
      have ho6 := (txnOk_parts htx).2
      have HOk := hide (txnOk_parts htx).1
      have HSo := hide (fun (j : Nat) (hj : j < xs[n].Ops.length) => badO_succ xs kind (n : Int) xs[n].Ops j hj)
      have HLo := hide (badO_len xs kind (n : Int) xs[n].Ops)
      have HZ := hide (show badO xs kind (n : Int) xs[n].Ops 0 = [] from rfl)
      have HRo := hide hj3
      generalize badKs xs kind (D.take k) = L at HO HS hfl
      generalize xs[n].Ops = ops at d1 hj1 HSo HLo ho6 HOk HRo HS HZ
      have hqo : ops.length ≤ 9223372036854775807 := by omega
      clear hR hn hn0 hn1 htx hj3 d0 d3
      go_wp2_with fail
      clear d1 e0
      obtain ⟨wo, hwo⟩ : ∃ wo : World, wo = wr := ⟨_, rfl⟩
      rw [← hwo] at HO HB HK
      rw [← hwo]
      clear hwo
      go_loopw [5, 8, 9, 42] (fun v _ _ i wr => ∃ j : Nat, j ≤ ops.length ∧ i = .int .i64 j ∧ Hid (Own tSpan 114 wr (fun b => (b = w2.heap.size ∨ w3.heap.size ≤ b) ∧ Old wr b) (L ++ badO xs kind (n : Int) ops j) v) ∧ Hid (Only (fun b => b = w2.heap.size ∨ w3.heap.size ≤ b) w3 wr) ∧ Hid (Below w.heap.size w wr)) (fun _ _ _ i _ => ops.length - (intOf i).toNat)
      case atStart => exact ⟨0, Nat.zero_le _, rfl, by rw [HZ.out, List.append_nil]; exact HO.out, HK.out, HB.out⟩
      case round =>
        obtain ⟨j, hj, rfl, hO, hK, hb⟩ := hrel
        have HO2 := hide hO.out; have HK2 := hide hK.out; have HB2 := hide hb.out
        clear hO hK hb
        by_cases hlt2 : j < ops.length
        · obtain ⟨b2, off2, hA2, hbS2, g0, g1, g2⟩ := at_Op HRo.out HB2.out hlt2
          subst hA2
          have hji : (j : Int) < (ops.length : Int) := by omega
          have hok := HOk.out _ (List.getElem_mem hlt2)
          have HS2 := hide (HSo.out j hlt2)
          have hlo := HLo.out j
          have HBo := hide (HBk.out (n : Int) ops[j] hok)
          have HX := hide (Blk.new wr 82 #[.int .i64 ops[j].Kind, .int .i64 ops[j].Key, .int .i64 ops[j].Value])
          have HBa := hide ((Below.refl _ wr).alloc (Nat.le_refl _) (.cells #[.int .i64 ops[j].Kind, .int .i64 ops[j].Key, .int .i64 ops[j].Value] 82))
          generalize kindB xs (n : Int) ops[j] = kb at HS2 HBo
          generalize ops[j] = o at g0 g1 g2 HX HBa HBo
          obtain ⟨k1, y1, v1⟩ := o
          dsimp only at *
          go_upto_region 12 with (fail)
          obtain ⟨bl, hbl⟩ : ∃ bl, bl = wr.heap.size := ⟨_, rfl⟩
          generalize hW : World.alloc _ _ = W2 at HX HBa ⊢
          rw [← hbl] at HX ⊢
          clear hW hbl g0 g1 g2
          have x0 := HX.out.cell 0; have x1 := HX.out.cell 1; have x2 := HX.out.cell 2
          simp only [List.getElem?_toArray, List.getElem?_cons_zero, List.getElem?_cons_succ] at x0 x1 x2
          have HO3 := hide (HO2.out.onlyBelow HBa.out)
          have HK3 := hide (HK2.out.trans (Only.of_below HBa.out))
          have HB3 := hide (HB2.out.trans (HBa.out.mono HB2.out.size))
          clear HO2 HK2 HB2 HBa
          cases hkk : (kb == kind) with
          | false =>
            have HF := hide (show badO xs kind (n : Int) ops (j + 1) = badO xs kind (n : Int) ops j by rw [HS2.out, hkk]; simp)
            clear HS2
            go_wp2_with (go_at_call 118; refine (HBo.out _ HB3.out).mono ?_; rintro e w5 ⟨rfl, hb5⟩; have HO5 := hide (HO3.out.onlyBelow hb5); have HK5 := hide (HK3.out.trans (Only.of_below hb5)); have HB5 := hide (HB3.out.trans (hb5.mono HB3.out.size)); clear hb5)
            go_roundw
            case rel => exact ⟨j + 1, by omega, by go_num, by rw [HF.out]; exact HO5.out, HK5.out, HB5.out⟩
            case measure => simp [intOf]; omega
          | true =>
            have HF := hide (show (L ++ badO xs kind (n : Int) ops j) ++ [⟨(n : Int), (j : Int)⟩] = L ++ badO xs kind (n : Int) ops (j + 1) by rw [HS2.out, hkk]; simp)
            clear HS2
            have hl9 : (L ++ badO xs kind (n : Int) ops j).length ≤ 100 := by rw [List.length_append]; omega
            go_wp2_with (first | (go_at_call 118; refine (HBo.out _ HB3.out).mono ?_; rintro e w5 ⟨rfl, hb5⟩; have HO5 := hide (HO3.out.onlyBelow hb5); have HK5 := hide (HK3.out.trans (Only.of_below hb5)); have HB5 := hide (HB3.out.trans (hb5.mono HB3.out.size)); clear hb5) | (at_builtin; refine wpList_put tSpan rfl (.tmp 53) (.tmp 57) 78 rfl 114 i0 _ 16 Tryz.underlying78 hi hz0 hz1 (by assumption) rfl (by decide) (fun b => b = w2.heap.size ∨ w3.heap.size ≤ b) (fun _ => False) (L ++ badO xs kind (n : Int) ops j) ⟨(n : Int), (j : Int)⟩ [.int .i64 n, .int .i64 j] _ rfl HO5.out 1 rfl rfl (fun _ h => h.elim) (fun b hb => .inr (Nat.le_trans HK5.out.size hb)) (by simp only [maxLen]; omega) (by omega) ?_; intro v6 w6 hO_ hK_; have HO6 := hide hO_; have HK6 := hide (HK5.out.trans hK_); have HB6 := hide (below_only HB5.out hK_ HB5.out.size (fun i h => by omega)); clear hO_ hK_))
            go_roundw
            case rel => exact ⟨j + 1, by omega, by go_num, by rw [← HF.out]; exact HO6.out, HK6.out, HB6.out⟩
            case measure => simp [intOf]; omega
        · obtain rfl : j = ops.length := by omega
          have HF := hide (show Own tSpan 114 wr (fun b => (b = w2.heap.size ∨ w3.heap.size ≤ b) ∧ Old wr b) (badKs xs kind (D.take (k + 1))) _ by rw [HS.out]; exact HO2.out)
          clear HO2
          go_wp2_with fail
          go_roundw
          case rel => exact ⟨k + 1, by omega, by go_num, HF.out, HB2.out, HK2.out⟩
          case measure => simp [intOf]; omega
    · obtain rfl : k = D.length := by omega
      have HO1 := hide (show Own tSpan 114 wr (fun b => (b = w2.heap.size ∨ w3.heap.size ≤ b) ∧ Old wr b) (badR xs kind) u5 by have := HO.out; rw [List.take_length] at this; rw [HQ.out]; exact this)
      obtain ⟨A7, c7, rfl, h71, h72, _⟩ := HO1.out.sl
      clear HO hR
      go_wp2_with fail
      go_ret
      exact ⟨_, rfl, ⟨A7, _, rfl, Nat.le_refl _, Nat.le_trans h71 h72, HO1.out.sl.row.mono (fun b h => ⟨by have := h.1; omega, h.2⟩) (fun _ _ => rfl)⟩, HB.out⟩
def badN (h : List Txn) (k : Nat) : Nat := if k = 4 then (badS h).length else (badR h (k : Int)).length
theorem readsB_N (h : List Txn) : readsB h = (histV h && (((List.range 4).all fun i => badN h (i + 1) == 0) && (doneL h).all fun n => !earlyB (opsOf h n))) := by
  unfold readsB fineB
  have e1 : badN h 1 = (badR h 1).length := rfl
  have e2 : badN h 2 = (badR h 2).length := rfl
  have e3 : badN h 3 = (badR h 3).length := rfl
  have e4 : badN h 4 = (badS h).length := rfl
  have hr : List.range 4 = [0, 1, 2, 3] := rfl
  rw [hr]
  simp only [List.all_cons, List.all_nil, Bool.and_true, Nat.zero_add, Nat.reduceAdd, e1, e2, e3, e4, Bool.and_assoc]
theorem implBadN (xs : List Txn) (k : Nat) (A : Option Addr) (c : Nat) (w : World) (hv : histV xs = true) (hk : 1 ≤ k ∧ k ≤ 4) (hA : Row tTxn w (Old w) A xs) :
    Calls Tryz.prog 81 #[.slice A xs.length c, .int .i64 k] w fun e w' => ∃ A2 c2, e = .returned (.slice A2 (badN xs k) c2) ∧ Below w.heap.size w w' := by
  have h6 := (histV_parts hv).1
  by_cases h4 : k = 4
  · subst h4
    refine (implBadOwn xs A c w hv (by simp only [maxLen]; omega) hA).mono ?_
    rintro e w' ⟨v, rfl, ⟨A2, c2, rfl, _⟩, hb⟩
    exact ⟨A2, c2, rfl, hb⟩
  · refine (implBadK xs k A c w hv (by omega) hA).mono ?_
    rintro e w' ⟨v, rfl, ⟨A2, c2, rfl, _⟩, hb⟩
    exact ⟨A2, c2, by unfold badN; rw [if_neg h4], hb⟩
set_option maxRecDepth 10000 in
set_option maxHeartbeats 4000000 in
theorem implReadsRight (xs : List Txn) (A : Option Addr) (c : Nat) (w : World) (hm : xs.length ≤ maxLen) (hA : Row tTxn w (Old w) A xs) :
    Calls Tryz.prog 40 #[.slice A xs.length c] w fun e w' => e = .returned (.bool (readsB xs)) ∧ Below w.heap.size w w' := by
  have HC := hide (implHistoryValid xs A c w hm hA)
  have HQ := hide (readsB_N xs)
  cases hv : histV xs with
  | false =>
    rw [hv] at HC HQ
    clear hv hA
    go_enter Tryz.func40, Tryz.ntmps40
    go_wp2_with (go_at_call 66; refine HC.out.mono ?_; rintro e w1 ⟨rfl, hb1⟩; have HB1 := hide hb1; clear hb1)
    go_ret
    exact ⟨ret_bool HQ.out.symm, HB1.out⟩
  | true =>
    have h6 := (histV_parts hv).1
    have HBn := hide (fun (k : Nat) (hk : 1 ≤ k ∧ k ≤ 4) (W : World) (hb : Below w.heap.size w W) => implBadN xs k A c W hv hk (hA.old hb))
    have HDn := hide (fun (W : World) (hb : Below w.heap.size w W) => implDone xs A c W (by omega) (hA.old hb))
    have HV := hide (histV_parts hv).2
    have HMem := hide (fun x (hx : x ∈ doneL xs) => doneI_mem xs _ x hx)
    have hdl : (doneL xs).length ≤ 6 := Nat.le_trans (doneI_len xs _) h6
    have HA := hide hA
    rw [hv] at HC HQ
    clear hv hA hm
    go_enter Tryz.func40, Tryz.ntmps40
    go_wp2_with (go_at_call 66; refine HC.out.mono ?_; rintro e w1 ⟨rfl, hb1⟩; have HB1 := hide hb1; clear hb1)
    go_loopw [3] (fun kx wr => ∃ k : Nat, k ≤ 4 ∧ kx = .int .i64 ((k : Int) + 1) ∧ Hid (((List.range k).all fun i => badN xs (i + 1) == 0) = true) ∧ Hid (Below w.heap.size w wr)) (fun kx _ => 5 - (intOf kx).toNat)
    case atStart => exact ⟨0, Nat.zero_le _, rfl, rfl, HB1.out⟩
    case round =>
      obtain ⟨k, hk, rfl, hI, hb⟩ := hrel
      have HI := hide hI.out; have HB := hide hb.out
      clear hI hb HB1
      by_cases hlt : k < 4
      · have hk4 : (k : Int) + 1 ≤ 4 := by omega
        have HCk := hide (HBn.out (k + 1) (by omega))
        have HSt := hide (show ((List.range (k + 1)).all fun i => badN xs (i + 1) == 0) = (((List.range k).all fun i => badN xs (i + 1) == 0) && badN xs (k + 1) == 0) by rw [List.range_succ, List.all_append]; simp)
        rw [show ((k + 1 : Nat) : Int) = (k : Int) + 1 from by omega] at HCk
        rw [HI.out, Bool.true_and] at HSt
        have HAl := hide (show badN xs (k + 1) ≠ 0 → ((List.range 4).all fun i => badN xs (i + 1) == 0) = false from fun h => by
          rw [List.all_eq_false]
          exact ⟨k, List.mem_range.2 hlt, by simpa using h⟩)
        generalize badN xs (k + 1) = N at HCk HSt HAl
        by_cases hN : N = 0
        · have HF := hide (show ((List.range (k + 1)).all fun i => badN xs (i + 1) == 0) = true by rw [HSt.out, hN]; rfl)
          have hng : ¬ (0 : Int) < (N : Int) := by omega
          clear HSt HAl hN
          go_wp2_with (go_at_call 81; refine (HCk.out _ HB.out).mono ?_; rintro e w2 ⟨A2, c2, rfl, hb2⟩; have HB2 := hide (HB.out.trans (hb2.mono HB.out.size)); clear hb2)
          go_roundw
          case rel => exact ⟨k + 1, by omega, by go_num, HF.out, HB2.out⟩
          case measure => simp [intOf]; omega
        · have HF := hide (show readsB xs = false by rw [HQ.out, HAl.out hN]; rfl)
          have hng : (0 : Int) < (N : Int) := by omega
          clear HSt HAl hN
          go_wp2_with (go_at_call 81; refine (HCk.out _ HB.out).mono ?_; rintro e w2 ⟨A2, c2, rfl, hb2⟩; have HB2 := hide (HB.out.trans (hb2.mono HB.out.size)); clear hb2)
          go_ret
          exact ⟨ret_bool HF.out.symm, HB2.out⟩
      · obtain rfl : k = 4 := by omega
        have HQ2 := hide (HQ.out.trans (by rw [HI.out]; rfl) : readsB xs = (doneL xs).all fun n => !earlyB (opsOf xs n))
        clear HQ HI
        generalize doneL xs = D at HDn HMem hdl HQ2
        have hqD : D.length ≤ 9223372036854775807 := by omega
        go_wp2_with (go_at_call 70; refine (HDn.out _ HB.out).mono ?_; rintro e w3 ⟨v3, rfl, hO3, hb3⟩; obtain ⟨A3, c3, rfl, h31, h32, _⟩ := hO3.sl; have HR3 := hide hO3.sl.row; have HB4 := hide (HB.out.trans (hb3.mono HB.out.size)); clear hO3 hb3)
        go_loopw [5, 21] (fun _ i wr => ∃ k : Nat, k ≤ D.length ∧ i = .int .i64 k ∧ Hid (((D.take k).all fun n => !earlyB (opsOf xs n)) = true) ∧ Hid (Below w3.heap.size w3 wr)) (fun _ i _ => D.length - (intOf i).toNat)
        case atStart => exact ⟨0, Nat.zero_le _, rfl, rfl, Below.refl _ _⟩
        case round =>
          obtain ⟨k, hk, rfl, hI, hb⟩ := hrel
          have HI := hide hI.out; have HB5 := hide hb.out
          have HB6 := hide (HB4.out.trans (hb.out.mono HB4.out.size))
          have hR := HR3.out.mono (w' := w3) (S' := Old w3) (fun b h => h.2) (fun b h => rfl)
          clear hI hb
          by_cases hlt : k < D.length
          · obtain ⟨b0, off0, hA3, hbS0, e0⟩ := at_Int hR HB5.out hlt
            subst hA3
            obtain ⟨hn0, hn1⟩ := HMem.out _ (List.getElem_mem hlt)
            obtain ⟨n, hn⟩ : ∃ n : Nat, D[k] = (n : Int) := ⟨D[k].toNat, by omega⟩
            have hnl : n < xs.length := by omega
            have HSt := hide (take_all_snoc (fun n => !earlyB (opsOf xs n)) D k hlt)
            rw [HI.out, Bool.true_and, hn, opsOf_nat hnl] at HSt
            have HSp := hide (all_stop (fun n => !earlyB (opsOf xs n)) D (k + 1))
            rw [hn] at e0
            obtain ⟨b, off, A2, c2, hA2, hbS, d0, d1, d3, hj1, hj2, hj3⟩ := at_Txn HA.out HB6.out hnl
            subst hA2
            have hnli : (n : Int) < (xs.length : Int) := by omega
            have HEa := hide (implEarly xs[n] A2 c2 wr (txnOk_parts (HV.out _ (List.getElem_mem hnl))).2 hj1 hj2 hj3)
            clear hR hn hn0 hn1 hj3 hj1 hj2
            cases he : earlyB xs[n].Ops with
            | false =>
              rw [he] at HSt HEa
              have HF := hide (HSt.out.trans (by rfl))
              clear HSt HSp he
              go_wp2_with (go_at_call 82; refine HEa.out.mono ?_; rintro e w7 ⟨rfl, hb7⟩; have HB7 := hide (HB5.out.trans (hb7.mono HB5.out.size)); clear hb7)
              go_roundw
              case rel => exact ⟨k + 1, by omega, by go_num, HF.out, HB7.out⟩
              case measure => simp [intOf]; omega
            | true =>
              rw [he] at HSt HEa
              have HF := hide (HQ2.out.trans (HSp.out (HSt.out.trans (by rfl))))
              clear HSt HSp he
              go_wp2_with (go_at_call 82; refine HEa.out.mono ?_; rintro e w7 ⟨rfl, hb7⟩; have HB7 := hide (HB6.out.trans (hb7.mono HB6.out.size)); clear hb7)
              go_ret
              exact ⟨ret_bool HF.out.symm, HB7.out⟩
          · obtain rfl : k = D.length := by omega
            have HF := hide (show readsB xs = true by rw [HQ2.out]; have := HI.out; rwa [List.take_length] at this)
            clear HI hR
            go_wp2_with fail
            go_ret
            exact ⟨ret_bool HF.out.symm, HB6.out⟩
theorem range_all_stop {p : Nat → Bool} {k n : Nat} (hk : k < n) (h : p k = false) : (List.range n).all p = false := by
  rw [List.all_eq_false]
  exact ⟨k, List.mem_range.2 hk, by simp [h]⟩
theorem range_all_succ {p : Nat → Bool} {k : Nat} (h : (List.range k).all p = true) : (List.range (k + 1)).all p = p k := by
  rw [List.range_succ, List.all_append, h]; simp
end Go.Proofs.YtjiobgfaohldhaaGreat
