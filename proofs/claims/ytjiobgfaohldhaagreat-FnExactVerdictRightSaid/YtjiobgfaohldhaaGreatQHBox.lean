/- The reference's l5Last, l6Kind, BadReads of the kinds 1 to 3, and ReadsRight. l20Turns and DrawScheduleValid: some list of numbers, in memory of the call's own. A variable of the call's own beside a slice that grows and a reader that goes on. One round of l20History: the transaction that grows, the values seen, the values stored, the history so far and the reader. l20Op: some operation. -/
import Derived.Test.YtjiobgfaohldhaaGreatQEdgS
import Derived.Test.YtjiobgfaohldhaaGreatQLevI
import Derived.Test.YtjiobgfaohldhaaGreatQRanges
import Derived.Test.YtjiobgfaohldhaaGreatQToA
namespace Go.Proofs.YtjiobgfaohldhaaGreat
open Go.RowKit
set_option linter.unusedVariables false
set_option linter.unusedSimpArgs false

theorem lastWs_at {ops : List Op} {o : Op} (ho : o ∈ lastWs ops) : lastW ops o.Key = some o := by
  unfold lastWs at ho
  simp only [List.mem_append, Option.mem_toList] at ho
  rcases ho with (ho | ho) | ho
  · have := (lastW_some ho).2.2; rw [this]; exact ho
  · have := (lastW_some ho).2.2; rw [this]; exact ho
  · have := (lastW_some ho).2.2; rw [this]; exact ho
theorem lastWs_has {ops : List Op} {key : Int} (hk : key = 0 ∨ key = 1 ∨ key = 2) {d : Op} (hd : lastW ops key = some d) : d ∈ lastWs ops := by
  unfold lastWs
  simp only [List.mem_append, Option.mem_toList]
  rcases hk with rfl | rfl | rfl
  · exact .inl (.inl hd)
  · exact .inl (.inr hd)
  · exact .inr hd
theorem lastB_hit {h : List Txn} {key v : Int} {m : Nat} (hw : wrN h key v = some (m : Int)) {o : Op} (ho : o ∈ lastWs (opsOf h (m : Int))) (hk : o.Key = key) : lastB h key v = (o.Value == v) := by
  unfold lastB
  rw [hw]
  dsimp only
  rw [← hk, lastWs_at ho]
theorem lastB_miss {h : List Txn} (hv : histV h = true) {key v : Int} {m : Nat} (hw : wrN h key v = some (m : Int)) (hn : ∀ o ∈ lastWs (opsOf h (m : Int)), o.Key ≠ key) : lastB h key v = false := by
  obtain ⟨n, hnm, _, o, ho, h2, h3, h4⟩ := wrN_some hw
  have hk := (opOk_parts (op_ok hv _ o ho)).2.1
  rw [h3] at hk
  unfold lastB
  rw [hw]
  dsimp only
  cases hl : lastW (opsOf h (m : Int)) key with
  | none => rfl
  | some d => exact absurd (lastW_some hl).2.2 (hn d (lastWs_has (by omega) hl))
theorem lastB_none {h : List Txn} {key v : Int} (hw : wrN h key v = none) : lastB h key v = false := by unfold lastB; rw [hw]
set_option maxRecDepth 10000 in
set_option maxHeartbeats 2000000 in
theorem specLast (xs : List Txn) (key v : Int) (A : Option Addr) (c : Nat) (w : World) (hv : histV xs = true) (hA : Row tTxn w (Old w) A xs) :
    Calls Tryz.prog 130 #[.slice A xs.length c, .int .i64 key, .int .i64 v] w fun e w' => e = .returned (.bool (lastB xs key v)) ∧ Below w.heap.size w w' := by
  have h6 : xs.length ≤ 6 := (histV_parts hv).1
  have HW := hide (specWriter xs key v A c w (by simp only [maxLen]; omega) hA)
  have HA := hide hA
  cases hwr : wrN xs key v with
  | none =>
    have HR := hide (lastB_none hwr)
    rw [show look (num xs 0) key v = none from hwr] at HW
    clear hwr hA
    go_enter Tryz.func130, Tryz.ntmps130
    go_wp2_with (go_at_call 58; refine HW.out.mono ?_; rintro e w1 ⟨rfl, hb1⟩; have HB1 := hide hb1; clear hb1)
    go_ret
    exact ⟨ret_bool HR.out.symm, HB1.out⟩
  | some x =>
    obtain ⟨m, rfl, hm, _⟩ := wrN_some hwr
    rw [show look (num xs 0) key v = some (m : Int) from hwr] at HW
    have htx := (histV_parts hv).2 _ (List.getElem_mem hm)
    have HL1 := hide (fun (o : Op) ho hk => lastB_hit hwr (o := o) ho hk)
    have HL2 := hide (lastB_miss hv hwr)
    rw [opsOf_nat hm] at HL1 HL2
    have hll := lastWs_len xs[m].Ops
    have HLw := hide (fun (A2 : Option Addr) (c2 : Nat) (W : World) (hR : Row tOp W (Old W) A2 xs[m].Ops) => specLastWrites xs[m] A2 c2 W htx hR)
    generalize hLe : lastWs xs[m].Ops = L at HL1 HL2 HLw hll
    have hLq : L.length ≤ 9223372036854775807 := by omega
    clear hwr hA htx hLe
    go_enter Tryz.func130, Tryz.ntmps130
    go_upto_region 4 with (go_at_call 58; refine HW.out.mono ?_; rintro e w1 ⟨rfl, hb1⟩; have HB1 := hide hb1; clear hb1)
    obtain ⟨b, off, A2, c2, hA2, hbS, c0, c1, c3, hi1, hi2, hi3⟩ := at_Txn HA.out HB1.out hm
    subst hA2
    have HC := hide (HLw.out A2 c2 w1 hi3)
    clear hi3 HLw
    go_wp2_with (go_at_call 97; refine HC.out.mono ?_; rintro e w2 ⟨v2, rfl, hO2, hb2⟩; obtain ⟨A3, d3, rfl, h31, h32, h33⟩ := hO2.sl; have HR2 := hide (h33.mono (w' := w2) (S' := Old w2) (fun b h => h.2) (fun _ _ => rfl)); have HB2 := hide (HB1.out.trans (hb2.mono HB1.out.size)); clear h33 hb2 hO2)
    clear c0 c1 c3
    go_loopw [9] (fun i wr => ∃ k : Nat, k ≤ L.length ∧ i = .int .i64 k ∧ Hid (∀ j (hj : j < L.length), j < k → L[j].Key ≠ key) ∧ wr = w2) (fun i _ => L.length - (intOf i).toNat)
    case atStart => exact ⟨0, Nat.zero_le _, rfl, fun j hj h => absurd h (by omega), rfl⟩
    case round =>
      obtain ⟨k, hk, rfl, hI, rfl⟩ := hrel
      have HI := hide hI.out
      clear hI
      by_cases hlt : k < L.length
      · have hki : (k : Int) < (L.length : Int) := by omega
        obtain ⟨b3, off3, rfl, hb3, d0, d1, d2⟩ := at_Op HR2.out (Below.refl _ wr) hlt
        by_cases hkey : L[k].Key = key
        · have HRs := hide (HL1.out L[k] (List.getElem_mem hlt) hkey)
          rw [hkey] at d1
          generalize L[k] = o at d0 d1 d2 HRs
          clear hkey
          go_wp2_with fail
          go_ret
          exact ⟨ret_bool HRs.out.symm, HB2.out⟩
        · have HI2 := hide (show ∀ j (hj : j < L.length), j < k + 1 → L[j].Key ≠ key from fun j hj h => by rcases Nat.lt_succ_iff_lt_or_eq.1 h with h | rfl; exact HI.out j hj h; exact hkey)
          have hkb : (L[k].Key == key) = false := by rw [beq_eq_false_iff_ne]; exact hkey
          clear hkey
          go_wp2_with fail
          go_roundw
          case rel => exact ⟨k + 1, by omega, by go_num, HI2.out, trivial⟩
          case measure => simp [intOf]; omega
      · have HRs := hide (HL2.out (fun o ho => by
          obtain ⟨j, hj, rfl⟩ := List.mem_iff_getElem.1 ho
          exact HI.out j hj (by omega)))
        obtain rfl : k = L.length := by omega
        go_wp2_with fail
        go_ret
        exact ⟨ret_bool HRs.out.symm, HB2.out⟩
set_option maxRecDepth 10000 in
set_option maxHeartbeats 2000000 in
theorem specKind (xs : List Txn) (n : Int) (o : Op) (A : Option Addr) (c : Nat) (w : World) (hv : histV xs = true) (hA : Row tTxn w (Old w) A xs) :
    Calls Tryz.prog 99 #[.slice A xs.length c, .int .i64 n, .agg #[.int .i64 o.Kind, .int .i64 o.Key, .int .i64 o.Value]] w fun e w' => e = .returned (.int .i64 (kindB xs n o)) ∧ Below w.heap.size w w' := by
  have h6 : xs.length ≤ 6 := (histV_parts hv).1
  obtain ⟨kd, ky, vl⟩ := o
  dsimp only
  have HK := hide (show kindB xs n ⟨kd, ky, vl⟩ = (if (!(kd == 1) || vl == 0 || wrI xs ky vl == n) then 0 else if wrI xs ky vl < 0 then 1 else if dneOf xs (wrI xs ky vl) then (if lastB xs ky vl then 0 else 3) else 2) from rfl)
  have HB0 := hide ((Below.refl _ w).alloc (Nat.le_refl _) (.cells #[.int .i64 kd, .int .i64 ky, .int .i64 vl] 82))
  have HX0 := hide (Blk.new w 82 #[.int .i64 kd, .int .i64 ky, .int .i64 vl])
  have HW := hide (fun (W : World) (hb : Below w.heap.size w W) => specWriter xs ky vl A c W (by simp only [maxLen]; omega) (hA.old hb))
  have HLs := hide (fun (W : World) (hb : Below w.heap.size w W) => specLast xs ky vl A c W hv (hA.old hb))
  have HA := hide hA
  have hz0 : w.heap.size < (w.alloc (.cells #[.int .i64 kd, .int .i64 ky, .int .i64 vl] 82)).heap.size := by simp
  have HWr := hide (wr_cases xs ky vl)
  have HWi := hide (show (look (num xs 0) ky vl).getD (-1) = wrI xs ky vl from rfl)
  clear hA hv
  go_enter Tryz.func99, Tryz.ntmps99
  go_upto_region 1 with fail
  generalize w.alloc _ = W at HB0 HX0 hz0 ⊢
  have x0 := HX0.out.cell 0; have x1 := HX0.out.cell 1; have x2 := HX0.out.cell 2
  simp only [List.getElem?_toArray, List.getElem?_cons_zero, List.getElem?_cons_succ] at x0 x1 x2
  have HW1 := hide (HW.out W HB0.out)
  rw [HWi.out] at HW1
  go_upto_region 2 with (go_at_call 58; refine HW1.out.mono ?_; rintro e w1 ⟨rfl, hb1⟩; have HB1 := hide (HB0.out.trans (hb1.mono HB0.out.size)); have HX1 := hide (HX0.out.below hb1 HX0.out.lt); clear hb1)
  clear x0 x1 x2
  have x0 := HX1.out.cell 0; have x1 := HX1.out.cell 1; have x2 := HX1.out.cell 2
  simp only [List.getElem?_toArray, List.getElem?_cons_zero, List.getElem?_cons_succ] at x0 x1 x2
  by_cases q0 : kd = 1
  · subst q0
    by_cases q2 : vl = 0
    · subst q2
      have HR := hide (show kindB xs n ⟨1, ky, 0⟩ = 0 by rw [HK.out]; simp)
      clear HK
      go_wp2_with fail
      go_ret
      exact ⟨ret_int HR.out.symm, HB1.out⟩
    · have q2b : (vl == 0) = false := by rw [beq_eq_false_iff_ne]; exact q2
      by_cases q3 : wrI xs ky vl = n
      · have HR := hide (show kindB xs n ⟨1, ky, vl⟩ = 0 by rw [HK.out]; simp [q3])
        rw [q3]
        clear HK q3
        go_wp2_with fail
        go_ret
        exact ⟨ret_int HR.out.symm, HB1.out⟩
      · have q3b : (wrI xs ky vl == n) = false := by rw [beq_eq_false_iff_ne]; exact q3
        rcases HWr.out with hw | ⟨m, hm, hw⟩
        · have HR := hide (show kindB xs n ⟨1, ky, vl⟩ = 1 by rw [HK.out, q3b, q2b, hw]; simp)
          rw [hw] at q3b ⊢
          clear HK q3 hw
          go_wp2_with fail
          go_ret
          exact ⟨ret_int HR.out.symm, HB1.out⟩
        · have HR0 := hide (show kindB xs n ⟨1, ky, vl⟩ = (if xs[m].Done then (if lastB xs ky vl then 0 else 3) else 2) by
            rw [HK.out, q3b, q2b, hw, dne_nat hm]
            simp
            intro h9; omega)
          rw [hw] at q3b ⊢
          have hm0 : ¬ ((m : Int) < 0) := by omega
          obtain ⟨b, off, A2, c2, hA2, hbS, c0, c1, c3, hi1, hi2, hi3⟩ := at_Txn HA.out HB1.out hm
          subst hA2
          have HL1 := hide (HLs.out w1 HB1.out)
          clear HK q3 hw hi3 c0 c1
          cases hdn : xs[m].Done with
          | false =>
            rw [hdn] at c3
            have HR := hide (show kindB xs n ⟨1, ky, vl⟩ = 2 by rw [HR0.out, hdn]; rfl)
            clear hdn HR0
            go_wp2_with fail
            go_ret
            exact ⟨ret_int HR.out.symm, HB1.out⟩
          | true =>
            rw [hdn] at c3
            cases hlb : lastB xs ky vl with
            | true =>
              have HR := hide (show kindB xs n ⟨1, ky, vl⟩ = 0 by rw [HR0.out, hdn, hlb]; rfl)
              rw [hlb] at HL1
              clear hdn HR0 hlb
              go_wp2_with (go_at_call 130; refine HL1.out.mono ?_; rintro e w2 ⟨rfl, hb2⟩; have HB2 := hide (HB1.out.trans (hb2.mono HB1.out.size)); clear hb2)
              go_ret
              exact ⟨ret_int HR.out.symm, HB2.out⟩
            | false =>
              have HR := hide (show kindB xs n ⟨1, ky, vl⟩ = 3 by rw [HR0.out, hdn, hlb]; rfl)
              rw [hlb] at HL1
              clear hdn HR0 hlb
              go_wp2_with (go_at_call 130; refine HL1.out.mono ?_; rintro e w2 ⟨rfl, hb2⟩; have HB2 := hide (HB1.out.trans (hb2.mono HB1.out.size)); clear hb2)
              go_ret
              exact ⟨ret_int HR.out.symm, HB2.out⟩
  · have q0b : (kd == 1) = false := by rw [beq_eq_false_iff_ne]; exact q0
    have HR := hide (show kindB xs n ⟨kd, ky, vl⟩ = 0 by rw [HK.out, q0b]; simp)
    clear HK
    go_wp2_with fail
    go_ret
    exact ⟨ret_int HR.out.symm, HB1.out⟩
def badP (h : List Txn) (kind : Int) (t : Txn) (k : Int) (l : Nat) : List Span := if t.Done then badO h kind k t.Ops l else []
set_option maxRecDepth 10000 in
set_option maxHeartbeats 4000000 in
theorem specBadK (xs : List Txn) (kind : Nat) (A : Option Addr) (c : Nat) (w : World) (h1 : 1 ≤ kind) (h3 : kind ≤ 3) (hv : histV xs = true) (ht : opsN xs ≤ 1048576) (hA : Row tTxn w (Old w) A xs) :
    Calls Tryz.prog 56 #[.slice A xs.length c, .int .i64 kind] w fun e w' => ∃ v, e = .returned v ∧ Own tSpan 114 w' (New w w') (badR xs kind) v ∧ Below w.heap.size w w' := by
  obtain ⟨i0, hi, hz0, hz1, hz2⟩ := info_parts infoPlace_
  have h6 : xs.length ≤ 6 := (histV_parts hv).1
  have hq : xs.length ≤ 9223372036854775807 := by omega
  have HB1 := hide ((Below.refl _ w).alloc (Nat.le_refl _) (.cells #[] 114))
  have HC1 := hide (specHistoryValid xs A c _ (by simp only [maxLen]; omega) (hA.old HB1.out) ht)
  have HKd := hide (fun (n : Int) (o : Op) (W : World) (hb : Below w.heap.size w W) => specKind xs n o A c W hv (hA.old hb))
  have HV := hide (fun t ht => (txnOk_parts ((histV_parts hv).2 t ht)).2)
  have HDs := hide (badKs_done xs kind)
  have HKl := hide (fun l => badKs_len HV.out (kind : Int) l)
  have HDl := hide (doneI_len xs)
  have HE := hide (show badKs xs kind (doneI xs xs.length) = badR xs kind from rfl)
  have HA := hide hA
  rw [hv] at HC1
  have HO1 := hide (Own.empty (T := tSpan) (e := 114) w (fun b => w.heap.size ≤ b) (Nat.le_refl _))
  have hr : inR (kind : Int) 1 4 = true := inR_iff.2 ⟨by omega, by omega⟩
  have hk4 : ((kind : Int) == 4) = false := by rw [beq_eq_false_iff_ne]; omega
  clear hA hv ht h1 h3
  go_enter Tryz.func56, Tryz.ntmps56
  go_upto_region 13 with (first | (go_at_call 49; refine HC1.out.mono ?_; rintro e w2 ⟨rfl, hb2⟩; have HB2 := hide (HB1.out.trans (hb2.mono HB1.out.size)); have HO2 := hide (HO1.out.onlyBelow hb2); clear hb2) | (go_at_call 96; refine (l1In _ _ _ _).mono ?_; rintro e w' ⟨rfl, rfl⟩; rw [hr]))
  clear HC1 HB1 HO1 hr hk4
  go_loopw [5, 8, 9] (fun v i _ wr => ∃ k : Nat, k ≤ xs.length ∧ i = .int .i64 k ∧ Hid (Own tSpan 114 wr (fun b => w.heap.size ≤ b ∧ Old wr b) (badKs xs kind (doneI xs k)) v) ∧ Hid (Below w.heap.size w wr)) (fun _ i _ _ => xs.length - (intOf i).toNat)
  case atStart => exact ⟨0, Nat.zero_le _, rfl, HO2.out, HB2.out⟩
  case round =>
    obtain ⟨k, hk, rfl, hO, hb⟩ := hrel
    have HO := hide hO.out; have HB := hide hb.out
    clear hO hb HO2 HB2
    by_cases hlt : k < xs.length
    · have hki : (k : Int) < (xs.length : Int) := by omega
      have HD1 := hide (HDs.out k hlt)
      have HKl1 := hide (HKl.out (doneI xs k))
      have HDl1 := hide (HDl.out k)
      have HV1 := hide (HV.out _ (List.getElem_mem hlt))
      obtain ⟨b, off, A2, c2, hA2, hbS, c0, c1, c3, hi1, hi2, hi3⟩ := at_Txn HA.out (Below.refl _ w) hlt
      have HC0 := hide (And.intro c1 c3); have HbS := hide hbS; have HR2 := hide hi3
      subst hA2
      clear c0 c1 c3 hi3 hbS
      have hq2 : xs[k].Ops.length ≤ 9223372036854775807 := by have := HV1.out; omega
      generalize badKs xs kind (doneI xs k) = Y at HO HD1 HKl1
      have HY0 := hide (show Y ++ badP xs kind xs[k] k 0 = Y by unfold badP; cases xs[k].Done <;> simp [badO])
      have HYs := hide (fun l (hl : l < xs[k].Ops.length) => badO_succ xs kind (k : Int) xs[k].Ops l hl)
      have HYl := hide (fun l => badO_len xs kind (k : Int) xs[k].Ops l)
      go_upto_region 16 with fail
      go_loopw [5, 9] (fun v j wq => ∃ l : Nat, l ≤ xs[k].Ops.length ∧ j = .int .i64 l ∧ Hid (Own tSpan 114 wq (fun b => w.heap.size ≤ b ∧ Old wq b) (Y ++ badP xs kind xs[k] k l) v) ∧ Hid (Below w.heap.size w wq)) (fun _ j _ => xs[k].Ops.length - (intOf j).toNat)
      case atStart => exact ⟨0, Nat.zero_le _, rfl, by rw [HY0.out]; exact HO.out, HB.out⟩
      case round =>
        obtain ⟨l, hl, rfl, hO, hb⟩ := hrel
        have HOl := hide hO.out; have HBl := hide hb.out
        clear hO hb HY0
        have d1 := (HBl.out.cell (p := ⟨b, off + k * 3 + 1, none⟩) HbS.out).trans HC0.out.1
        have d3 := (HBl.out.cell (p := ⟨b, off + k * 3 + 2, none⟩) HbS.out).trans HC0.out.2
        by_cases hlt2 : l < xs[k].Ops.length
        · have hli : (l : Int) < (xs[k].Ops.length : Int) := by omega
          have HY1 := hide (HYs.out l hlt2)
          have HL1 := hide (HYl.out l)
          obtain ⟨b2, off2, hA2, hbS2, e0, e1, e2⟩ := at_Op HR2.out HBl.out hlt2
          subst hA2
          have HKo := hide (HKd.out (k : Int) xs[k].Ops[l] wr HBl.out)
          cases hdn : xs[k].Done with
          | false =>
            rw [hdn] at d3
            have HYn := hide (show Y ++ badP xs kind xs[k] k (l + 1) = Y by unfold badP; rw [hdn]; simp)
            have HOn := hide (show Own tSpan 114 wr (fun b => w.heap.size ≤ b ∧ Old wr b) Y _ from by have := HOl.out; unfold badP at this; rw [hdn] at this; simpa using this)
            clear hdn HOl HY1
            go_wp2_with fail
            go_roundw
            case rel => exact ⟨l + 1, by omega, by go_num, by rw [HYn.out]; exact HOn.out, HBl.out⟩
            case measure => simp [intOf]; omega
          | true =>
            rw [hdn] at d3
            have HYn := hide (show Y ++ badP xs kind xs[k] k (l + 1) = (Y ++ badO xs kind (k : Int) xs[k].Ops l) ++ (if kindB xs k xs[k].Ops[l] == kind then [⟨k, l⟩] else []) by unfold badP; rw [hdn, if_pos rfl, HY1.out, List.append_assoc])
            have HOn := hide (show Own tSpan 114 wr (fun b => w.heap.size ≤ b ∧ Old wr b) (Y ++ badO xs kind (k : Int) xs[k].Ops l) _ from by have := HOl.out; unfold badP at this; rw [hdn, if_pos rfl] at this; exact this)
            have HLn := hide (show (Y ++ badO xs kind (k : Int) xs[k].Ops l).length ≤ 48 by have h1 := HKl1.out; have h2 := HDl1.out; have h3 := HL1.out; have h4 := HV1.out; rw [List.length_append]; omega)
            clear hdn HOl HY1
            generalize Y ++ badO xs kind (k : Int) xs[k].Ops l = Z at HYn HOn HLn
            cases hkb : (kindB xs k xs[k].Ops[l] == kind) with
            | false =>
              rw [hkb] at HYn
              have HYm := hide (show _ = Z from HYn.out.trans (by simp))
              clear HYn
              go_wp2_with (go_at_call 99; refine HKo.out.mono ?_; rintro e w4 ⟨rfl, hb4⟩; have HB4 := hide (HBl.out.trans (hb4.mono HBl.out.size)); have HO4 := hide (HOn.out.onlyBelow hb4); clear hb4)
              go_roundw
              case rel => exact ⟨l + 1, by omega, by go_num, by rw [HYm.out]; exact HO4.out, HB4.out⟩
              case measure => simp [intOf]; omega
            | true =>
              rw [hkb] at HYn
              go_wp2_with (first | (go_at_call 99; refine HKo.out.mono ?_; rintro e w4 ⟨rfl, hb4⟩; have HB4 := hide (HBl.out.trans (hb4.mono HBl.out.size)); have HO4 := hide (HOn.out.onlyBelow hb4); clear hb4) | (at_builtin; refine wpList_put tSpan rfl (.tmp 83) (.tmp 87) 78 rfl 114 i0 _ 16 Tryz.underlying78 hi hz0 hz1 hz2 rfl (by decide) (fun b => w.heap.size ≤ b) (fun _ => False) Z ⟨(k : Int), (l : Int)⟩ [.int .i64 k, .int .i64 l] _ rfl HO4.out 1 rfl rfl (fun b h => h.elim) (fun b hb => Nat.le_trans HB4.out.size hb) (by have := HLn.out; simp only [maxLen]; omega) (by have := HLn.out; omega) ?_; intro v6 w6 hO_ hK_; have HO6 := hide hO_; have HK6 := hide hK_; clear hO_ hK_))
              go_roundw
              case rel => exact ⟨l + 1, by omega, by go_num, by rw [HYn.out]; exact HO6.out, below_only HB4.out HK6.out HB4.out.size (fun i h => h)⟩
              case measure => simp [intOf]; omega
        · obtain rfl : l = xs[k].Ops.length := by omega
          have HO8 := hide (show Own tSpan 114 wr (fun b => w.heap.size ≤ b ∧ Old wr b) (badKs xs kind (doneI xs (k + 1))) _ from by rw [HD1.out]; exact HOl.out)
          clear HOl
          go_wp2_with fail
          go_roundw
          case rel => exact ⟨k + 1, by omega, by go_num, HO8.out, HBl.out⟩
          case measure => simp [intOf]; omega
    · obtain rfl : k = xs.length := by omega
      rw [HE.out] at HO
      go_wp2_with fail
      go_ret
      exact ⟨_, rfl, HO.out.mono (fun b h => ⟨h.1, h.2⟩) (fun _ _ => rfl), HB.out⟩
def kindN (h : List Txn) (k : Nat) : Nat := if k = 4 then (badS h).length else (badR h (k : Int)).length
theorem kindN_small (h : List Txn) (k : Nat) (hk : k ≠ 4) : kindN h k = (badR h (k : Int)).length := by unfold kindN; rw [if_neg hk]
theorem specBadN (xs : List Txn) (k : Nat) (A : Option Addr) (c : Nat) (w : World) (h1 : 1 ≤ k) (h4 : k ≤ 4) (hv : histV xs = true) (ht : opsN xs ≤ 1048576) (hA : Row tTxn w (Old w) A xs) :
    Calls Tryz.prog 56 #[.slice A xs.length c, .int .i64 k] w fun e w' => ∃ A2 c2, e = .returned (.slice A2 (kindN xs k) c2) ∧ Below w.heap.size w w' := by
  by_cases h : k = 4
  · subst h
    refine (specBadOwn xs A c w hv (by have := (histV_parts hv).1; simp only [maxLen]; omega) ht hA).mono ?_
    rintro e w' ⟨v, rfl, hO, hb⟩
    obtain ⟨A2, c2, rfl, _⟩ := hO.sl
    exact ⟨A2, c2, rfl, hb⟩
  · rw [kindN_small xs k h]
    refine (specBadK xs k A c w h1 (by omega) hv ht hA).mono ?_
    rintro e w' ⟨v, rfl, hO, hb⟩
    obtain ⟨A2, c2, rfl, _⟩ := hO.sl
    exact ⟨A2, c2, rfl, hb⟩
def earlyA (h : List Txn) (k : Nat) : Bool := (doneI h k).all fun n => !earlyS h n (opsOf h n)
theorem earlyA_succ (h : List Txn) (k : Nat) (hk : k < h.length) : earlyA h (k + 1) = (earlyA h k && (!h[k].Done || !earlyS h (k : Int) h[k].Ops)) := by
  unfold earlyA
  rw [doneI_succ h k hk, List.all_append]
  cases h[k].Done with
  | false => simp
  | true => simp [opsOf_nat hk]
theorem earlyA_mono {h : List Txn} {k : Nat} (hk : k < h.length) (he : earlyA h (k + 1) = false) : earlyA h h.length = false := by
  cases ht : earlyA h h.length with
  | false => rfl
  | true =>
    have : ∀ j, j ≤ h.length → k + 1 ≤ j → earlyA h j = false := by
      intro j
      induction j with
      | zero => intro _ h0; omega
      | succ j ih =>
        intro hj hkj
        by_cases hkj2 : k + 1 ≤ j
        · rw [earlyA_succ h j (by omega), ih (by omega) hkj2]; rfl
        · obtain rfl : k = j := by omega
          exact he
    rw [this _ (Nat.le_refl _) (by omega)] at ht
    cases ht
theorem readsS_parts {h : List Txn} (hv : histV h = true) : readsB h = (decide (kindN h 1 = 0) && decide (kindN h 2 = 0) && decide (kindN h 3 = 0) && decide (kindN h 4 = 0) && earlyA h h.length) := by
  rw [readsB_S, hv]
  have e4 : fineB h = decide (kindN h 4 = 0) := by unfold fineB kindN; simp [Bool.beq_eq_decide_eq]
  have e1 : ((badR h 1).length == 0) = decide (kindN h 1 = 0) := by rw [kindN_small h 1 (by omega)]; simp [Bool.beq_eq_decide_eq]
  have e2 : ((badR h 2).length == 0) = decide (kindN h 2 = 0) := by rw [kindN_small h 2 (by omega)]; simp [Bool.beq_eq_decide_eq]
  have e3 : ((badR h 3).length == 0) = decide (kindN h 3 = 0) := by rw [kindN_small h 3 (by omega)]; simp [Bool.beq_eq_decide_eq]
  rw [e1, e2, e3, e4]
  show _ = (_ && earlyA h h.length)
  unfold earlyA
  simp only [Bool.and_assoc, Bool.true_and]
  rfl
set_option maxRecDepth 10000 in
set_option maxHeartbeats 1000000 in
theorem specWriterS (xs : List Txn) (key value : Int) (A : Option Addr) (c : Nat) (w : World) (hm : xs.length ≤ maxLen) (hA : Row tTxn w (Old w) A xs) :
    Calls Tryz.prog 58 #[.slice A xs.length c, .int .i64 key, .int .i64 value] w fun e w' => e = .returned (.int .i64 (wrI xs key value)) ∧ w = w' := by
  unfold maxLen at hm
  have HWi := hide (show (look (num xs 0) key value).getD (-1) = wrI xs key value from rfl)
  have HA := hide hA
  clear hA
  go_enter Tryz.func58, Tryz.ntmps58
  go_wp2
  go_loopw [7] (fun i wr => ∃ k : Nat, k ≤ xs.length ∧ i = .int .i64 k ∧ Hid (look (num (xs.take k) 0) key value = none) ∧ w = wr) (fun i _ => xs.length - (intOf i).toNat)
  case atStart => exact ⟨0, Nat.zero_le _, rfl, rfl, rfl⟩
  case round =>
    obtain ⟨k, hk, rfl, hI, rfl⟩ := hrel
    by_cases hlt : k < xs.length
    · obtain ⟨b, off, A2, c2, rfl, hbS, c0, c1, c3, hi1, hi2, hi3⟩ := at_Txn HA.out (Below.refl _ w) hlt
      have hq2 : xs[k].Ops.length ≤ 9223372036854775807 := by have h := Nat.le_trans hi1 hi2; simpa [maxLen] using h
      have HR := hide hi3
      clear hi3 hi2 c0 c3
      go_wp2
      have hp0 : pre xs k 0 hlt = num (xs.take k) 0 := by unfold pre; simp
      go_loopw [8] (fun j wr2 => ∃ l : Nat, l ≤ xs[k].Ops.length ∧ j = .int .i64 l ∧ Hid (look (pre xs k l hlt) key value = none) ∧ w = wr2) (fun j _ => xs[k].Ops.length - (intOf j).toNat)
      case atStart => exact ⟨0, Nat.zero_le _, rfl, by rw [hp0]; exact hI, rfl⟩
      case round =>
        obtain ⟨l, hl, rfl, hJ, rfl⟩ := hrel
        by_cases hlt2 : l < xs[k].Ops.length
        · obtain ⟨b2, off2, rfl, hbS2, d0, d1, d2⟩ := at_Op HR.out (Below.refl _ w) hlt2
          cases hw : isW key value xs[k].Ops[l] with
          | true =>
            have HO := hide (show look (num xs 0) key value = some (k : Int) by
              obtain ⟨r, hr⟩ := num_split xs k l hlt hlt2
              rw [hr]
              exact look_hit hJ.out hw)
            have hw' := hw
            simp only [isW, Bool.and_eq_true, beq_iff_eq] at hw'
            obtain ⟨⟨hw0, hw1⟩, hw2⟩ := hw'
            rw [hw0] at d0; rw [hw1] at d1; rw [hw2] at d2
            clear hw hw0 hw1 hw2
            go_wp2
            go_ret
            exact ⟨by rw [← HWi.out, HO.out]; rfl, rfl⟩
          | false =>
            have HJ := hide (show look (pre xs k (l + 1) hlt) key value = none by
              rw [pre_snoc xs k l hlt hlt2, look_snoc, hJ.out, if_neg (by rw [hw]; simp)]; rfl)
            have HW := hide hw
            clear hw
            go_wp2
            all_goals first
              | (exfalso; have hw := HW.out; simp [isW, *] at hw; done)
              | (go_roundw; (case rel => exact ⟨l + 1, by omega, by go_num, HJ.out, by first | rfl | trivial⟩); (case measure => simp [intOf]; omega))
        · obtain rfl : l = xs[k].Ops.length := by omega
          have HP := hide (show look (num (xs.take (k + 1)) 0) key value = none by rw [← pre_all xs k hlt]; exact hJ.out)
          go_wp2
          go_roundw
          case rel => exact ⟨k + 1, by omega, by go_num, HP.out, by first | rfl | trivial⟩
          case measure => simp [intOf]; omega
    · obtain rfl : k = xs.length := by omega
      have HE := hide (show look (num xs 0) key value = none by have h := hI.out; rwa [List.take_length] at h)
      clear HA hI
      go_wp2
      go_ret
      exact ⟨by rw [← HWi.out, HE.out]; rfl, rfl⟩
theorem kindN_bad {h : List Txn} (hv : histV h = true) {k : Nat} (h1 : 1 ≤ k) (h4 : k ≤ 4) (hk : kindN h k ≠ 0) : readsB h = false := by
  rw [readsS_parts hv]
  rcases (by omega : k = 1 ∨ k = 2 ∨ k = 3 ∨ k = 4) with rfl | rfl | rfl | rfl <;> simp [hk]
theorem kindN_good {h : List Txn} (hv : histV h = true) (hk : ∀ j, 1 ≤ j → j < 5 → kindN h j = 0) : readsB h = earlyA h h.length := by
  rw [readsS_parts hv, hk 1 (by omega) (by omega), hk 2 (by omega) (by omega), hk 3 (by omega) (by omega), hk 4 (by omega) (by omega)]
  simp
def noneB (h : List Txn) (t : Txn) (n : Int) (L : List Op) (l : Nat) : Prop := t.Done = true → (L.take l).any (fun r => decide (0 < r.Value) && wrI h r.Key r.Value == n) = false
theorem noneB_succ {h : List Txn} {t : Txn} {n : Int} {L : List Op} {l : Nat} (hl : l < L.length) (hn : noneB h t n L l) (hx : t.Done = true → (decide (0 < L[l].Value) && wrI h L[l].Key L[l].Value == n) = false) : noneB h t n L (l + 1) := fun hd => by
  rw [List.take_succ_eq_append_getElem hl, List.any_append, hn hd]
  simpa using hx hd
theorem noneB_all {h : List Txn} {t : Txn} {n : Int} (hn : noneB h t n (firstR t.Ops) (firstR t.Ops).length) : (!t.Done || !earlyS h n t.Ops) = true := by
  cases hd : t.Done with
  | false => rfl
  | true =>
    have := hn hd
    rw [List.take_length] at this
    unfold earlyS
    rw [this]; rfl
theorem noneB_hit {h : List Txn} {t : Txn} {n : Int} {l : Nat} (hl : l < (firstR t.Ops).length) (hd : t.Done = true) (hx : (decide (0 < (firstR t.Ops)[l].Value) && wrI h (firstR t.Ops)[l].Key (firstR t.Ops)[l].Value == n) = true) : (!t.Done || !earlyS h n t.Ops) = false := by
  have : earlyS h n t.Ops = true := by
    unfold earlyS
    rw [List.any_eq_true]
    exact ⟨_, List.getElem_mem hl, hx⟩
  rw [hd, this]; rfl
set_option maxRecDepth 10000 in
set_option maxHeartbeats 4000000 in
theorem specReadsRight (xs : List Txn) (A : Option Addr) (c : Nat) (w : World) (hv : histV xs = true) (ht : opsN xs ≤ 1048576) (hA : Row tTxn w (Old w) A xs) :
    Calls Tryz.prog 23 #[.slice A xs.length c] w fun e w' => e = .returned (.bool (readsB xs)) ∧ Below w.heap.size w w' := by
  have h6 : xs.length ≤ 6 := (histV_parts hv).1
  have hq : xs.length ≤ 9223372036854775807 := by omega
  have HBn := hide (fun (k : Nat) (h1 : 1 ≤ k) (h4 : k ≤ 4) (W : World) (hb : Below w.heap.size w W) => specBadN xs k A c W h1 h4 hv ht (hA.old hb))
  have HHv := hide (fun (W : World) (hb : Below w.heap.size w W) => specHistoryValid xs A c W (by simp only [maxLen]; omega) (hA.old hb) ht)
  have HWr := hide (fun (key v : Int) (W : World) (hb : Below w.heap.size w W) => show Calls Tryz.prog 58 #[.slice A xs.length c, .int .i64 key, .int .i64 v] W fun e w' => e = .returned (.int .i64 (wrI xs key v)) ∧ W = w' from specWriterS xs key v A c W (by simp only [maxLen]; omega) (hA.old hb))
  have HFr := hide (fun (k : Nat) (hk : k < xs.length) (A2 : Option Addr) (c2 : Nat) (W : World) (hR : Row tOp W (Old W) A2 xs[k].Ops) => specFirstReads xs[k] A2 c2 W ((histV_parts hv).2 _ (List.getElem_mem hk)) hR)
  have HT6 := hide (fun (k : Nat) (hk : k < xs.length) => (txnOk_parts ((histV_parts hv).2 _ (List.getElem_mem hk))).2)
  have HBad := hide (fun (k : Nat) h1 h4 hk => kindN_bad hv (k := k) h1 h4 hk)
  have HGood := hide (kindN_good hv)
  have HA := hide hA
  have HVt := hide hv
  clear hA hv ht
  go_enter Tryz.func23, Tryz.ntmps23
  go_wp2_with fail
  go_loopw [3] (fun i wr => ∃ k : Nat, 1 ≤ k ∧ k ≤ 5 ∧ i = .int .i64 k ∧ Hid (∀ j, 1 ≤ j → j < k → kindN xs j = 0) ∧ Hid (Below w.heap.size w wr)) (fun i _ => 5 - (intOf i).toNat)
  case atStart => exact ⟨1, Nat.le_refl _, by omega, rfl, fun j h1 h2 => absurd h2 (by omega), Below.refl _ _⟩
  case round =>
    obtain ⟨k, hk1, hk5, rfl, hI, hb⟩ := hrel
    have HI := hide hI.out; have HB := hide hb.out
    clear hI hb
    by_cases hk4 : k ≤ 4
    · have hki : (k : Int) ≤ 4 := by omega
      have HC := hide (HBn.out k hk1 hk4 wr HB.out)
      by_cases hz : kindN xs k = 0
      · have HI2 := hide (show ∀ j, 1 ≤ j → j < k + 1 → kindN xs j = 0 from fun j h1 h2 => by
          rcases Nat.lt_succ_iff_lt_or_eq.1 h2 with h | rfl
          · exact HI.out j h1 h
          · exact hz)
        rw [hz] at HC
        clear hz
        go_wp2_with (go_at_call 56; refine HC.out.mono ?_; rintro e w2 ⟨A2, c2, rfl, hb2⟩; have HB2 := hide (HB.out.trans (hb2.mono HB.out.size)); clear hb2)
        go_roundw
        case rel => exact ⟨k + 1, by omega, by omega, by go_num, HI2.out, HB2.out⟩
        case measure => simp [intOf]; omega
      · have HR := hide (HBad.out k hk1 hk4 hz)
        have hpos : (0 : Int) < (kindN xs k : Int) := by omega
        clear hz
        generalize kindN xs k = n at HC hpos
        go_wp2_with (go_at_call 56; refine HC.out.mono ?_; rintro e w2 ⟨A2, c2, rfl, hb2⟩; have HB2 := hide (HB.out.trans (hb2.mono HB.out.size)); clear hb2)
        go_ret
        exact ⟨ret_bool HR.out.symm, HB2.out⟩
    · have hki : ¬ (k : Int) ≤ 4 := by omega
      have HG := hide (HGood.out (fun j h1 h2 => HI.out j h1 (by omega)))
      clear HI HBn HBad HGood hk4
      obtain ⟨wo, hwo⟩ : ∃ wo : World, wo = wr := ⟨_, rfl⟩
      subst hwo
      go_wp2_with fail
      go_loopw [4, 5, 6] (fun i _ _ wr => ∃ k : Nat, k ≤ xs.length ∧ i = .int .i64 k ∧ Hid (earlyA xs k = true) ∧ Hid (Below w.heap.size w wr)) (fun i _ _ _ => xs.length - (intOf i).toNat)
      case atStart => exact ⟨0, Nat.zero_le _, rfl, rfl, HB.out⟩
      case round =>
        obtain ⟨k, hk, rfl, hI, hb⟩ := hrel
        have HI := hide hI.out; have HB2 := hide hb.out
        clear hI hb HB
        by_cases hlt : k < xs.length
        · have hkl : (k : Int) < (xs.length : Int) := by omega
          obtain ⟨b, off, A2, c2, hA2, hbS, c0, c1, c3, hi1, hi2, hi3⟩ := at_Txn HA.out HB2.out hlt
          subst hA2
          have HbS := hide hbS
          have HF1 := hide (HFr.out k hlt A2 c2 wr hi3)
          have HEs := hide (earlyA_succ xs k hlt)
          have HEm := hide (fun (he : earlyA xs (k + 1) = false) => earlyA_mono (h := xs) (k := k) hlt he)
          have hfl := firstRs_len xs[k].Ops xs[k].Ops.length
          have hL6 : (firstR xs[k].Ops).length ≤ 6 := Nat.le_trans hfl (HT6.out k hlt)
          have HAll := hide (fun (hn : noneB xs xs[k] (k : Int) (firstR xs[k].Ops) (firstR xs[k].Ops).length) => noneB_all hn)
          have HHit := hide (fun l (hl : l < (firstR xs[k].Ops).length) (hd : xs[k].Done = true) (hx : (decide (0 < (firstR xs[k].Ops)[l].Value) && wrI xs (firstR xs[k].Ops)[l].Key (firstR xs[k].Ops)[l].Value == (k : Int)) = true) => noneB_hit (h := xs) (t := xs[k]) (n := (k : Int)) (l := l) hl hd hx)
          have HC3 := hide (fun (W : World) (hb : Below wr.heap.size wr W) => (hb.cell (p := ⟨b, off + k * 3 + 2, none⟩) (Nat.lt_of_lt_of_le hbS HB2.out.size)).trans c3)
          generalize firstR xs[k].Ops = L at HF1 hL6 HAll HHit
          have hLq : L.length ≤ 9223372036854775807 := by omega
          clear hi3 hfl hbS
          obtain ⟨wa, hwa⟩ : ∃ wa : World, wa = wr := ⟨_, rfl⟩
          subst hwa
          go_wp2_with (go_at_call 57; refine HF1.out.mono ?_; rintro e w3 ⟨v3, rfl, hO3, hb3⟩; obtain ⟨A3, d3, rfl, h31, h32, h33⟩ := hO3.sl; have HR3 := hide (h33.mono (w' := w3) (S' := Old w3) (fun b h => h.2) (fun _ _ => rfl)); have HB3 := hide hb3; clear h33 hb3 hO3)
          clear c0 c1 c3 HF1
          go_loopw [6] (fun j wq => ∃ l : Nat, l ≤ L.length ∧ j = .int .i64 l ∧ Hid (noneB xs xs[k] k L l) ∧ Hid (Below w3.heap.size w3 wq)) (fun j _ => L.length - (intOf j).toNat)
          case atStart => exact ⟨0, Nat.zero_le _, rfl, fun _ => rfl, Below.refl _ _⟩
          case round =>
            obtain ⟨l, hl, rfl, hI, hb⟩ := hrel
            have HN := hide hI.out; have HB4 := hide hb.out
            clear hI hb
            have HB5 := hide (HB3.out.trans (HB4.out.mono HB3.out.size))
            have HB6 := hide (HB2.out.trans (HB5.out.mono HB2.out.size))
            by_cases hlt2 : l < L.length
            · have hli : (l : Int) < (L.length : Int) := by omega
              obtain ⟨b3, off3, hA3e, hb3, e0, e1, e2⟩ := at_Op HR3.out HB4.out hlt2
              subst hA3e
              have c3 := HC3.out wr HB5.out
              have HNs := hide (fun (hx : xs[k].Done = true → (decide (0 < L[l].Value) && wrI xs L[l].Key L[l].Value == (k : Int)) = false) => noneB_succ (h := xs) (t := xs[k]) (n := (k : Int)) hlt2 HN.out hx)
              have HH1 := hide (HHit.out l hlt2)
              generalize L[l] = o at e0 e1 e2 HNs HH1
              obtain ⟨kd, ky, vl⟩ := o
              dsimp only at e0 e1 e2 HNs HH1
              cases hdn : xs[k].Done with
              | false =>
                rw [hdn] at c3
                have HN2 := hide (HNs.out (fun h => absurd (hdn.symm.trans h) (by decide)))
                clear hdn HN HH1 HNs e0 e1 e2
                go_upto_region 13 with fail
                go_quiet (fail)
                go_wp2_with fail
                go_roundw
                case rel => exact ⟨l + 1, by omega, by go_num, HN2.out, below_drewN HB4.out _⟩
                case measure => simp [intOf]; omega
              | true =>
                rw [hdn] at c3
                by_cases hpos : 0 < vl
                · have HWq := hide (fun n => HWr.out ky vl (wr.drewN n) (below_drewN HB6.out n))
                  have hpb : (decide (0 < vl)) = true := decide_eq_true hpos
                  cases hwk : (wrI xs ky vl == (k : Int)) with
                  | true =>
                    have HR := hide (show earlyA xs xs.length = false from HEm.out (by rw [HEs.out, HH1.out hdn (by rw [hpb, hwk]; rfl), Bool.and_false]))
                    clear hdn HN HH1 HNs HEs HEm hpb
                    go_upto_region 13 with fail
                    go_quiet ((go_at_call 58; exact Calls.quiet_of_same ((HWq.out _).mono (fun _ _ h => ⟨h.1, h.2.symm⟩))))
                    go_wp2_with fail
                    go_ret
                    exact ⟨ret_bool (by rw [HG.out, HR.out]), below_drewN HB6.out _⟩
                  | false =>
                    have HN2 := hide (HNs.out (fun _ => by rw [hpb, hwk]; rfl))
                    clear hdn HN HH1 HNs HEs HEm hpb
                    go_upto_region 13 with fail
                    go_quiet ((go_at_call 58; exact Calls.quiet_of_same ((HWq.out _).mono (fun _ _ h => ⟨h.1, h.2.symm⟩))))
                    go_wp2_with fail
                    go_roundw
                    case rel => exact ⟨l + 1, by omega, by go_num, HN2.out, below_drewN HB4.out _⟩
                    case measure => simp [intOf]; omega
                · have HN2 := hide (HNs.out (fun _ => by rw [decide_eq_false hpos]; rfl))
                  clear hdn HN HH1 HNs
                  go_upto_region 13 with fail
                  go_quiet (fail)
                  go_wp2_with fail
                  go_roundw
                  case rel => exact ⟨l + 1, by omega, by go_num, HN2.out, below_drewN HB4.out _⟩
                  case measure => simp [intOf]; omega
            · obtain rfl : l = L.length := by omega
              have HE2 := hide (show earlyA xs (k + 1) = true by rw [HEs.out, HI.out, HAll.out HN.out]; rfl)
              clear HN
              go_wp2_with fail
              go_roundw
              case rel => exact ⟨k + 1, by omega, by go_num, HE2.out, HB6.out⟩
              case measure => simp [intOf]; omega
        · obtain rfl : k = xs.length := by omega
          have HH := hide (HHv.out wr HB2.out)
          rw [HVt.out] at HH
          go_wp2_with (go_at_call 49; refine HH.out.mono ?_; rintro e w5 ⟨rfl, hb5⟩; have HB9 := hide (HB2.out.trans (hb5.mono HB2.out.size)); clear hb5)
          go_ret
          exact ⟨ret_bool (by rw [HG.out, HI.out]), HB9.out⟩
end Go.Proofs.YtjiobgfaohldhaaGreat
namespace Go.Proofs.YtjiobgfaohldhaaGreat
open Go.RowKit
set_option linter.unusedVariables false
set_option linter.unusedSimpArgs false

section
variable {α : Type} {T : Ty α} {e : TypeId} {w W W' : World} {R P : Nat} {K : Nat → Prop} {xs : List α} {v : Value} {B : Nat} {t : TypeId} {cs : Array Value}
end
/-- One value after the other goes into a block, from place o on. -/
def setRow (w : World) (g : Nat) : Nat → List Value → World
  | _, [] => w
  | o, u :: r => setRow (w.setCell ⟨g, o, none⟩ u) g (o + 1) r
theorem setRow_far (g : Nat) : ∀ (cs : List Value) (w : World) (o b : Nat), b ≠ g → (setRow w g o cs).heap[b]? = w.heap[b]?
  | [], w, o, b, _ => rfl
  | u :: r, w, o, b, hb => by rw [setRow, setRow_far g r _ _ b hb]; exact Below.heap_setCell _ _ _ _ hb
theorem setRow_blk {g : Nat} {e : TypeId} : ∀ (cs : List Value) (w : World) (o : Nat) (cur : Array Value), Blk w g e cur → o + cs.length ≤ cur.size →
    ∃ cur', Blk (setRow w g o cs) g e cur' ∧ cur'.size = cur.size ∧ (∀ i, i < o ∨ o + cs.length ≤ i → cur'[i]? = cur[i]?) ∧ ∀ j u, cs[j]? = some u → cur'[o + j]? = some u
  | [], w, o, cur, h, _ => ⟨cur, h, rfl, fun _ _ => rfl, fun j u hu => by simp at hu⟩
  | x :: r, w, o, cur, h, hs => by
    rw [List.length_cons] at hs
    obtain ⟨cur', h1, h2, h3, h4⟩ := setRow_blk r _ (o + 1) _ (h.set_ o x) (by rw [Array.size_setIfInBounds]; omega)
    refine ⟨cur', h1, by rw [h2, Array.size_setIfInBounds], fun i hi => ?_, fun j u hu => ?_⟩
    · rw [List.length_cons] at hi
      rw [h3 i (by omega), Array.getElem?_setIfInBounds_ne (by omega)]
    · cases j with
      | zero =>
        simp only [List.getElem?_cons_zero, Option.some.injEq] at hu
        rw [Nat.add_zero, h3 o (by omega), ← hu]
        simp [show o < cur.size by omega]
      | succ j =>
        rw [List.getElem?_cons_succ] at hu
        have := h4 j u hu
        rwa [show o + 1 + j = o + (j + 1) by omega] at this
section
variable {α : Type} {T : Ty α} {e : TypeId} {w w' : World} {S : Nat → Prop} {xs : List α} {v : Value} {g c n : Nat}
theorem Own.form (h : Own T e w S xs v) (h0 : 0 < xs.length) : ∃ g c, v = .slice (some ⟨g, 0, none⟩) xs.length c ∧ S g := by
  rcases h with ⟨rfl, rfl⟩ | ⟨g, cap, cur, S', rfl, hg, _⟩
  · cases h0
  · exact ⟨g, cap, rfl, hg⟩
theorem Own.el (h : Own T e w S xs (.slice (some ⟨g, 0, none⟩) n c)) {k : Nat} (hk : k < xs.length) : ∃ cs, T.rel w (fun b => S b ∧ b ≠ g) xs[k] cs ∧ (∀ j u, cs[j]? = some u → w.cell? ⟨g, k * T.size + j, none⟩ = some u) ∧ ∀ i, w.frozen? ⟨g, i, none⟩ = false := by
  rcases h with ⟨h, rfl⟩ | ⟨g', cap, cur, S', he, hg, hB, h1, h2, h3, h4, h5⟩
  · cases hk
  · injection he with e1 e2 e3
    injection e1 with e1
    injection e1 with e1
    subst e1
    obtain ⟨cs, hr, hcs⟩ := h5 k hk
    exact ⟨cs, T.mono hr h4 (fun _ _ => rfl), fun j u hu => by have := hcs j u hu; rwa [Nat.zero_add] at this, fun i => hB.frozen i⟩
theorem Own.setEl (h : Own T e w S xs (.slice (some ⟨g, 0, none⟩) n c)) {k : Nat} (hk : k < xs.length) {x : α} {cs : List Value} (hx : T.rel w (fun b => S b ∧ b ≠ g) x cs) :
    Own T e (setRow w g (k * T.size) cs) S (xs.set k x) (.slice (some ⟨g, 0, none⟩) n c) := by
  rcases h with ⟨h, rfl⟩ | ⟨g', cap, cur, S', he, hg, hB, h1, h2, h3, h4, h5⟩
  · cases hk
  · injection he with e1 e2 e3
    injection e1 with e1
    injection e1 with e1
    subst e1
    subst e2
    subst e3
    have hl := T.len hx
    have hm : k * T.size + T.size ≤ c * T.size := by rw [← Nat.succ_mul]; exact Nat.mul_le_mul_right _ (by omega)
    obtain ⟨cur', g1, g2, g3, g4⟩ := setRow_blk cs w (k * T.size) cur hB (by rw [hl, h3]; exact hm)
    refine .inr ⟨g, c, cur', fun b => S b ∧ b ≠ g, by rw [List.length_set], hg, g1, by rw [List.length_set]; exact h1, h2, by rw [g2, h3], fun _ h => h, fun i hi => ?_⟩
    rw [List.length_set] at hi
    by_cases hik : k = i
    · subst hik
      refine ⟨cs, ?_, fun j u hu => ?_⟩
      · rw [List.getElem_set_self]
        exact T.mono hx (fun _ h => h) (fun b hb => setRow_far g cs w _ b hb.2)
      · rw [g1.cell, Nat.zero_add]
        exact g4 j u hu
    · obtain ⟨cs', hr, hcs⟩ := h5 i hi
      refine ⟨cs', ?_, fun j u hu => ?_⟩
      · rw [List.getElem_set_ne hik]
        exact T.mono hr h4 (fun b hb => setRow_far g cs w _ b (h4 b hb).2)
      · have hj : j < T.size := by rw [← T.len hr]; exact (List.getElem?_eq_some_iff.1 hu).1
        have := hcs j u hu
        rw [hB.cell] at this
        rw [g1.cell, g3 _ ?_]
        · exact this
        · rw [hl, Nat.zero_add]
          rcases Nat.lt_or_ge i k with h6 | h6
          · have : i * T.size + T.size ≤ k * T.size := by rw [← Nat.succ_mul]; exact Nat.mul_le_mul_right _ (by omega)
            omega
          · have : k * T.size + T.size ≤ i * T.size := by rw [← Nat.succ_mul]; exact Nat.mul_le_mul_right _ (by omega)
            omega
end
theorem Own.cellInt {e : TypeId} {w : World} {S : Nat → Prop} {xs : List Int} {g c n : Nat} (h : Own tInt e w S xs (.slice (some ⟨g, 0, none⟩) n c)) {k : Nat} (hk : k < xs.length) : w.cell? ⟨g, k, none⟩ = some (.int .i64 xs[k]) ∧ w.frozen? ⟨g, k, none⟩ = false := by
  obtain ⟨cs, hr, hc, hf⟩ := h.el hk
  have h1 : cs = [.int .i64 xs[k]] := hr
  subst h1
  have := hc 0 _ rfl
  rw [show k * tInt.size + 0 = k from Nat.mul_one k] at this
  exact ⟨this, hf k⟩
theorem Own.setInt {e : TypeId} {w : World} {S : Nat → Prop} {xs : List Int} {g c n : Nat} (h : Own tInt e w S xs (.slice (some ⟨g, 0, none⟩) n c)) {k : Nat} (hk : k < xs.length) (y : Int) : Own tInt e (w.setCell ⟨g, k, none⟩ (.int .i64 y)) S (xs.set k y) (.slice (some ⟨g, 0, none⟩) n c) := by
  have := h.setEl hk (x := y) (cs := [.int .i64 y]) rfl
  rw [show k * tInt.size = k from Nat.mul_one k] at this
  exact this

section
variable {w W W' : World} {R P gs lo : Nat} {xs : List Txn} {v : Value} {ss : List Int} {sv : Value} {B : Nat} {cs : Array Value}
end
theorem Own.alone {e : TypeId} {w : World} {S : Nat → Prop} {xs : List Int} {g c n : Nat} (h : Own tInt e w S xs (.slice (some ⟨g, 0, none⟩) n c)) : Own tInt e w (fun b => b = g) xs (.slice (some ⟨g, 0, none⟩) n c) := by
  rcases h with ⟨h, rfl⟩ | ⟨g', cap, cur, S', he, hg, hB, h1, h2, h3, h4, h5⟩
  · cases h
  · injection he with e1 e2 e3
    injection e1 with e1
    injection e1 with e1
    subst e1
    subst e2
    subst e3
    exact .inr ⟨g, c, cur, fun _ => False, rfl, rfl, hB, h1, h2, h3, fun _ h => h.elim, fun k hk => h5 k hk⟩
section
variable {w W W' : World} {R P gs lo : Nat} {xs : List Txn} {v : Value} {ss : List Int} {sv : Value} {B : Nat} {cs : Array Value} {gq cq : Nat} {qs : List Int} {st : List Op} {u : Value}
end
end Go.Proofs.YtjiobgfaohldhaaGreat
