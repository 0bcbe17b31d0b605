/- The program's Verdict.right and VerdictRight. The reference's VerdictRight. -/
import Derived.Test.YtjiobgfaohldhaaGreatQVerI
import Derived.Test.YtjiobgfaohldhaaGreatQLevI
import Derived.Test.YtjiobgfaohldhaaGreatQOrders
import Derived.Test.YtjiobgfaohldhaaGreatQAllS
import Derived.Test.YtjiobgfaohldhaaGreatQHBox
namespace Go.Proofs.YtjiobgfaohldhaaGreat
open Go.RowKit
set_option linter.unusedVariables false
set_option linter.unusedSimpArgs false

def rightB (h : List Txn) (cs : List (List Int)) : Bool := if readsB h then cs.length == (allO h).length && cycsB h (allO h) cs (allO h).length else cs.isEmpty
theorem cycsB_succ {h : List Txn} {all : List (List (List Int))} {cs : List (List Int)} {k : Nat} (h1 : k < all.length) (h2 : k < cs.length) (hk : cycsB h all cs k = true) : cycsB h all cs (k + 1) = cycV (h.length : Int) (edgR h all[k]) cs[k] := by
  unfold cycsB
  rw [range_all_succ hk, List.getD_eq_getElem?_getD, List.getD_eq_getElem?_getD, List.getElem?_eq_getElem h1, List.getElem?_eq_getElem h2]; rfl
theorem cycsB_stop {h : List Txn} {all : List (List (List Int))} {cs : List (List Int)} {k : Nat} (h1 : k < all.length) (h2 : k < cs.length) (hc : cycV (h.length : Int) (edgR h all[k]) cs[k] = false) : cycsB h all cs all.length = false :=
  range_all_stop h1 (by rw [List.getD_eq_getElem?_getD, List.getD_eq_getElem?_getD, List.getElem?_eq_getElem h1, List.getElem?_eq_getElem h2]; exact hc)
set_option maxRecDepth 10000 in
set_option maxHeartbeats 4000000 in
theorem implVRight (xs : List Txn) (g : Bool) (vo : Value) (cs : List (List Int)) (A B C : Option Addr) (c d e0 : Nat) (w : World) (hm : xs.length ≤ maxLen) (hlc : cs.length ≤ 1048576) (hnc : ∀ x ∈ cs, x.length ≤ 1048576) (hA : Row tTxn w (Old w) A xs) (hB : Row (tSlice (tSlice tInt)) w (Old w) B (allO xs)) (hC : Row (tSlice tInt) w (Old w) C cs) :
    Calls Tryz.prog 31 #[.agg #[.bool g, vo, .slice C cs.length e0], .slice A xs.length c, .slice B (allO xs).length d] w fun e w' => e = .returned (.bool (rightB xs cs)) ∧ Below w.heap.size w w' := by
  have HB0 := hide ((Below.refl _ w).alloc (Nat.le_refl _) (.cells #[.bool g, vo, .slice C cs.length e0] 32))
  have HX0 := hide (Blk.new w 32 #[.bool g, vo, .slice C cs.length e0])
  have HRr := hide (implReadsRight xs A c _ hm (hA.old HB0.out))
  have hz0 : w.heap.size < (w.alloc (.cells #[.bool g, vo, .slice C cs.length e0] 32)).heap.size := by simp
  have hl2 := allO_len xs
  have HBd := hide (show ∀ x ∈ allO xs, x.length ≤ 3 ∧ ∀ o ∈ x, o.length ≤ 6 from fun x hx => by
    have hne : allO xs ≠ [] := fun e => by rw [e] at hx; cases hx
    have hv := (allO_ok.1 hne).1
    rw [allO_eq hne] at hx
    exact ⟨Nat.le_of_eq (partO_mlen xs 3 x hx), partO_ilen hv 3 x hx⟩)
  have HR0 := hide (show rightB xs cs = (if readsB xs then cs.length == (allO xs).length && cycsB xs (allO xs) cs (allO xs).length else cs.isEmpty) from rfl)
  have HA := hide hA; have HB := hide hB; have HC := hide hC; have HN := hide hnc
  have hqa : (allO xs).length ≤ 9223372036854775807 := by omega
  have hqc : cs.length ≤ 9223372036854775807 := by omega
  have hqx : xs.length ≤ 9223372036854775807 := by simpa [maxLen] using hm
  clear hA hB hC hnc
  generalize allO xs = all at HR0 HB HBd hl2 hqa
  go_enter Tryz.func31, Tryz.ntmps31
  go_upto_region 1 with fail
  generalize w.alloc _ = W at HB0 HX0 HRr hz0 ⊢
  have HXc := hide (fun (W2 : World) (hb : Below W.heap.size W W2) => (HX0.out.below hb HX0.out.lt).cell 2)
  simp only [List.getElem?_toArray, List.getElem?_cons_zero, List.getElem?_cons_succ] at HXc
  cases hrb : readsB xs with
  | false =>
    have HR := hide (show rightB xs cs = decide (cs.length = 0) by rw [HR0.out, hrb]; cases cs <;> simp)
    rw [hrb] at HRr
    clear hrb
    go_upto_region 2 with (go_at_call 40; refine HRr.out.mono ?_; rintro e w1 ⟨rfl, hb1⟩; have HB1 := hide (HB0.out.trans (hb1.mono HB0.out.size)); have x2 := HXc.out w1 hb1; clear hb1)
    go_wp2_with fail
    go_ret
    exact ⟨ret_bool (by rw [HR.out, Bool.eq_iff_iff, beq_iff_eq, decide_eq_true_iff]; omega), HB1.out⟩
  | true =>
    have HR := hide (show rightB xs cs = (decide (cs.length = all.length) && cycsB xs all cs all.length) by rw [HR0.out, hrb]; simp [Bool.beq_eq_decide_eq])
    rw [hrb] at HRr
    clear hrb
    by_cases hln : cs.length = all.length
    · have hlb : ((cs.length : Int) == (all.length : Int)) = true := by rw [beq_iff_eq]; omega
      have hlb2 : (cs.length == all.length) = true := by rw [beq_iff_eq]; exact hln
      have hlb3 : ((cs.length : Int) != (all.length : Int)) = false := by rw [bne_eq_false_iff_eq]; omega
      have HRt := hide (show rightB xs cs = cycsB xs all cs all.length by rw [HR.out, decide_eq_true hln]; rfl)
      have HLn := hide hln
      clear hln
      go_upto_region 3 with (go_at_call 40; refine HRr.out.mono ?_; rintro e w1 ⟨rfl, hb1⟩; have HB1 := hide (HB0.out.trans (hb1.mono HB0.out.size)); have HW1 := hide hb1; have x2 := HXc.out w1 hb1; clear hb1)
      go_upto_region 6 with fail
      clear x2
      go_loopw [7, 8, 24] (fun _ _ i wr => ∃ k : Nat, k ≤ all.length ∧ i = .int .i64 k ∧ Hid (cycsB xs all cs k = true) ∧ Hid (Below w1.heap.size w1 wr)) (fun _ _ i _ => all.length - (intOf i).toNat)
      case atStart => exact ⟨0, Nat.zero_le _, rfl, rfl, Below.refl _ _⟩
      case round =>
        obtain ⟨k, hk, rfl, hI, hb⟩ := hrel
        have HI := hide hI.out; have HBk := hide hb.out
        clear hI hb
        have HB2 := hide (HB1.out.trans (HBk.out.mono HB1.out.size))
        by_cases hlt : k < all.length
        · have hki : (k : Int) < (all.length : Int) := by omega
          have hkc : k < cs.length := by rw [HLn.out]; exact hlt
          obtain ⟨b7, off7, A7, c7, rfl, hb7, g0, g1, g2, hR7⟩ := at_SliceG HB.out hlt
          obtain ⟨b8, off8, A8, c8, rfl, hb8, i0, i1, i2, hR8⟩ := at_SliceG HC.out hkc
          replace g0 := (HB2.out.cell (p := ⟨b7, off7 + k, none⟩) hb7).trans g0
          have HBw := hide (fun (W2 : World) (hb : Below wr.heap.size wr W2) => HB2.out.trans (hb.mono HB2.out.size))
          have HX2 := hide (fun (W2 : World) (hb : Below wr.heap.size wr W2) => HXc.out W2 ((HW1.out.trans (HBk.out.mono HW1.out.size)).trans (hb.mono (Nat.le_trans HW1.out.size HBk.out.size))))
          have HC8 := hide (fun (W2 : World) (hb : Below wr.heap.size wr W2) => ((HBw.out W2 hb).cell (p := ⟨b8, off8 + k, none⟩) hb8).trans i0)
          have HR8 := hide (fun (W2 : World) (hb : Below wr.heap.size wr W2) => hR8.old (HBw.out W2 hb))
          have hbd := HBd.out all[k] (List.getElem_mem hlt)
          have HEd := hide (fun (W2 : World) (hb : Below wr.heap.size wr W2) => implEdgesOf xs all[k] A A7 c c7 W2 hm (by omega) (fun o ho => by have := hbd.2 o ho; omega) (HA.out.old (HBw.out W2 hb)) (hR7.old (HBw.out W2 hb)))
          have hel := edgR_len xs all[k]
          have HSu := hide (cycsB_succ hlt hkc HI.out)
          have HSt := hide (fun hc => cycsB_stop (h := xs) (all := all) (cs := cs) hlt hkc hc)
          have hcy := HN.out _ (List.getElem_mem hkc)
          clear hR7 hR8 i0 hbd
          generalize edgR xs all[k] = es at HEd hel HSu HSt
          generalize all[k] = os at g0 g1 HEd
          generalize cs[k] = cy at i1 HC8 HR8 HSu HSt hcy
          go_upto_region 8 with fail
          refine wp_region_facts 10 (fun _ W => Below wr.heap.size wr W) (FRow tEdge es 4 (fun q9 : Nat => match q9 with | 0 => .slice A xs.length c | 1 => .int .i64 (xs.length : Int) | 2 => .slice A xs.length c | 3 => .slice A7 os.length c7 | 4 => undef | 5 => .pointer (some ⟨w.heap.size, 2, none⟩) | 6 => .slice (some ⟨b8, off8, none⟩) cs.length e0 | 7 => .int .i64 (k : Int) | 8 => .pointer (some ⟨b8, off8 + k, none⟩) | 9 => .slice A8 cy.length c8 | _ => undef)) (fun _ a b => Below a.heap.size a b) [some 29, some 30, some 31, some 32, some 33, some 34, some 35, some 36, some 37, some 38] (by kernel_rfl) (by kernel_rfl) (by kernel_rfl) (by kernel_rfl) ?_ ?_ ?_ ?_
          · exact (Below.refl _ wr).drew
          · intro i k9 v wa wb _ _ _ hF hE; exact hF.ev hE
          · intro i o hi ho a wa L9 hL hJ hc hd K hK
            have hi' : i = 0 ∨ i = 1 ∨ i = 2 ∨ i = 3 ∨ i = 4 ∨ i = 5 ∨ i = 6 ∨ i = 7 ∨ i = 8 ∨ i = 9 := by omega
            clear hi
            rcases hi' with rfl | rfl | rfl | rfl | rfl | rfl | rfl | rfl | rfl | rfl
            all_goals
              simp only [List.getElem?_toArray, List.getElem?_cons_zero, List.getElem?_cons_succ, Option.some.injEq] at ho
              subst ho
              simp only [reduceCtorEq, if_false] at hK
            · have e1 := (hc 1 (by kernel_rfl)).trans rfl
              go_simp
              exact hK _ _ (FRow.val (by decide) rfl) hJ (Below.refl _ _)
            · have e29 : a.tmps.getD 29 undef = .slice A xs.length c := (hd 0 29 (by kernel_rfl)).get (by decide)
              go_simp
              exact hK _ _ (FRow.val (by decide) rfl) hJ (Below.refl _ _)
            · have e1 := (hc 1 (by kernel_rfl)).trans rfl
              go_simp
              exact hK _ _ (FRow.val (by decide) rfl) hJ (Below.refl _ _)
            · have e8 := (hc 8 (by kernel_rfl)).trans rfl
              go_simp
              exact hK _ _ (FRow.val (by decide) rfl) hJ (Below.refl _ _)
            · have e31 : a.tmps.getD 31 undef = .slice A xs.length c := (hd 2 31 (by kernel_rfl)).get (by decide)
              have e32 : a.tmps.getD 32 undef = .slice A7 os.length c7 := (hd 3 32 (by kernel_rfl)).get (by decide)
              go_simp
              refine (HEd.out wa hJ).mono ?_
              rintro e w9 ⟨v9, rfl, hO9, hb9⟩
              obtain ⟨A9, d9, rfl, h91, h92, h93⟩ := hO9
              exact hK _ _ (FRow.mk (h93.mono (fun b h => h.2) (fun _ _ => rfl))) (hJ.trans (hb9.mono hJ.size)) hb9
            · have e3 := (hc 3 (by kernel_rfl)).trans rfl
              go_simp
              exact hK _ _ (FRow.val (by decide) rfl) hJ (Below.refl _ _)
            · have e34 : a.tmps.getD 34 undef = .pointer (some ⟨w.heap.size, 2, none⟩) := (hd 5 34 (by kernel_rfl)).get (by decide)
              have c9 := HX2.out wa hJ
              go_simp
              exact hK _ _ (FRow.val (by decide) rfl) hJ (Below.refl _ _)
            · have e7 := (hc 7 (by kernel_rfl)).trans rfl
              go_simp
              exact hK _ _ (FRow.val (by decide) rfl) hJ (Below.refl _ _)
            · have e35 : a.tmps.getD 35 undef = .slice (some ⟨b8, off8, none⟩) cs.length e0 := (hd 6 35 (by kernel_rfl)).get (by decide)
              have e36 : a.tmps.getD 36 undef = .int .i64 (k : Int) := (hd 7 36 (by kernel_rfl)).get (by decide)
              have s2 : k < cs.length := hkc
              go_simp
              exact hK _ _ (FRow.val (by decide) rfl) hJ (Below.refl _ _)
            · have e37 : a.tmps.getD 37 undef = .pointer (some ⟨b8, off8 + k, none⟩) := (hd 8 37 (by kernel_rfl)).get (by decide)
              have c9 := HC8.out wa hJ
              go_simp
              exact hK _ _ (FRow.val (by decide) rfl) hJ (Below.refl _ _)
          · intro vs wz L9 hL hJ hF
            obtain ⟨A9, d9, f4, hR9⟩ := (hF 4 (by decide)).row
            have f1 : vs 1 = .int .i64 (xs.length : Int) := (hF 1 (by decide)).get (by decide)
            have f9 : vs 9 = .slice A8 cy.length c8 := (hF 9 (by decide)).get (by decide)
            simp only [putD, Act.put, List.setIfInBounds_toArray, List.set_cons_zero, List.set_cons_succ, List.drop_succ_cons, List.drop_zero]
            rw [f1, f4, f9]
            clear hF f1 f4 f9
            have HCr := hide (implCycleRight (xs.length : Int) es cy A9 A8 d9 c8 wz (by simp only [maxLen]; omega) (by simp only [maxLen]; omega) hR9 (HR8.out wz hJ))
            have HJ := hide (HBk.out.trans (hJ.mono HBk.out.size))
            clear hJ hR9
            cases hcv : cycV (xs.length : Int) es cy with
            | true =>
              have HI2 := hide (HSu.out.trans hcv)
              rw [hcv] at HCr
              clear hcv
              go_wp2_with (go_at_call 72; refine HCr.out.mono ?_; rintro e w5 ⟨rfl, hb5⟩; have HB5 := hide (HJ.out.trans (hb5.mono HJ.out.size)); clear hb5)
              go_roundw
              case rel => exact ⟨k + 1, by omega, by go_num, HI2.out, HB5.out⟩
              case measure => simp [intOf]; omega
            | false =>
              have HRf := hide (show rightB xs cs = false by rw [HRt.out]; exact HSt.out hcv)
              rw [hcv] at HCr
              clear hcv
              go_wp2_with (go_at_call 72; refine HCr.out.mono ?_; rintro e w5 ⟨rfl, hb5⟩; have HB5 := hide (HB1.out.trans ((HJ.out.trans (hb5.mono HJ.out.size)).mono HB1.out.size)); clear hb5)
              go_ret
              exact ⟨ret_bool HRf.out.symm, HB5.out⟩
        · obtain rfl : k = all.length := by omega
          go_wp2_with fail
          go_ret
          exact ⟨ret_bool (by rw [HRt.out, HI.out]), HB2.out⟩
    · have hlb : ((cs.length : Int) == (all.length : Int)) = false := by rw [beq_eq_false_iff_ne]; omega
      have HRf := hide (show rightB xs cs = false by rw [HR.out, decide_eq_false hln]; rfl)
      go_upto_region 3 with (go_at_call 40; refine HRr.out.mono ?_; rintro e w1 ⟨rfl, hb1⟩; have HB1 := hide (HB0.out.trans (hb1.mono HB0.out.size)); have x2 := HXc.out w1 hb1; clear hb1)
      go_wp2_with fail
      go_ret
      exact ⟨ret_bool HRf.out.symm, HB1.out⟩
theorem verdB_no {h : List Txn} {v : Verd} (he : ¬ 0 < (allO h).length) : verdB h v = false := by
  have : allO h = [] := List.eq_nil_of_length_eq_zero (by omega)
  unfold verdB; rw [this]; rfl
theorem verdB_yes {h : List Txn} {v : Verd} (he : 0 < (allO h).length) : verdB h v = (if v.Good then serB h v.Order && v.Cycles.isEmpty else (v.Order.isEmpty && rightB h v.Cycles)) := by
  have : (allO h).isEmpty = false := by cases hx : allO h with | nil => rw [hx] at he; simp at he | cons _ _ => rfl
  unfold verdB rightB; rw [this]; rfl
set_option maxRecDepth 10000 in
set_option maxHeartbeats 4000000 in
theorem implVerdictRight (xs : List Txn) (g : Bool) (o : List Int) (cs : List (List Int)) (A B C : Option Addr) (c d e0 : Nat) (w : World) (hm : xs.length ≤ maxLen) (hmo : o.length ≤ 1048576) (hlc : cs.length ≤ 1048576) (hnc : ∀ x ∈ cs, x.length ≤ 1048576) (hA : Row tTxn w (Old w) A xs) (hB : Row tInt w (Old w) B o) (hC : Row (tSlice tInt) w (Old w) C cs) :
    Calls Tryz.prog 10 #[.slice A xs.length c, .agg #[.bool g, .slice B o.length d, .slice C cs.length e0]] w fun e w' => e = .returned (.bool (verdB xs ⟨g, o, cs⟩)) ∧ Below w.heap.size w w' := by
  have HB0 := hide ((Below.refl _ w).alloc (Nat.le_refl _) (.cells #[.bool g, .slice B o.length d, .slice C cs.length e0] 32))
  have HX0 := hide (Blk.new w 32 #[.bool g, .slice B o.length d, .slice C cs.length e0])
  have HOi := hide (implOrdersIn xs A c _ hm (hA.old HB0.out))
  have hz0 : w.heap.size < (w.alloc (.cells #[.bool g, .slice B o.length d, .slice C cs.length e0] 32)).heap.size := by simp
  have HSr := hide (fun (W : World) (hb : Below w.heap.size w W) => implSerialRight xs o A B c d W hm hmo (hA.old hb) (hB.old hb))
  have HVr := hide (fun (Ba : Option Addr) (ca : Nat) (W : World) (hb : Below w.heap.size w W) (hR : Row (tSlice (tSlice tInt)) W (Old W) Ba (allO xs)) => implVRight xs g (.slice B o.length d) cs A Ba C c ca e0 W hm hlc hnc (hA.old hb) hR (hC.old hb))
  have hqo : o.length ≤ 9223372036854775807 := by omega
  have hqc : cs.length ≤ 9223372036854775807 := by omega
  clear hA hB hC hnc
  go_enter Tryz.func10, Tryz.ntmps10
  go_upto_region 1 with fail
  generalize w.alloc _ = W at HB0 HX0 HOi hz0 ⊢
  have HXc := hide (fun (W2 : World) (hb : Below W.heap.size W W2) => And.intro ((HX0.out.below hb HX0.out.lt).cell 0) (And.intro ((HX0.out.below hb HX0.out.lt).cell 1) ((HX0.out.below hb HX0.out.lt).cell 2)))
  simp only [List.getElem?_toArray, List.getElem?_cons_zero, List.getElem?_cons_succ] at HXc
  by_cases hne : 0 < (allO xs).length
  · have HR := hide (verdB_yes (v := ⟨g, o, cs⟩) hne)
    rw [decide_eq_true hne] at HOi
    clear hne
    go_upto_region 4 with (go_at_call 29; refine HOi.out.mono ?_; rintro e w1 ⟨v1, rfl, hS1, hb1⟩; obtain ⟨A1, c1, rfl, h11, h12, h13⟩ := hS1; have HR1 := hide (h13.mono (w' := w1) (S' := Old w1) (fun b h => h.2) (fun _ _ => rfl)); have HB1 := hide (HB0.out.trans (hb1.mono HB0.out.size)); have HW1 := hide hb1; clear hb1 h13)
    obtain ⟨x0, x1, x2⟩ := HXc.out w1 HW1.out
    cases g with
    | true =>
      have HS1 := hide (HSr.out w1 HB1.out)
      cases hs : serB xs o with
      | true =>
        have HRt := hide (show verdB xs ⟨true, o, cs⟩ = cs.isEmpty by rw [HR.out]; simp [hs])
        rw [hs] at HS1
        clear hs
        have HX2 := hide (fun (W2 : World) (hb : Below w1.heap.size w1 W2) => HXc.out W2 (HW1.out.trans (hb.mono HW1.out.size)))
        go_wp2_with (go_at_call 30; refine HS1.out.mono ?_; rintro e w2 ⟨rfl, hb2⟩; obtain ⟨y0, y1, y2⟩ := HX2.out w2 hb2; have HB2 := hide (HB1.out.trans (hb2.mono HB1.out.size)); clear hb2)
        go_ret
        exact ⟨ret_bool (by rw [HRt.out]; cases cs <;> simp <;> omega), HB2.out⟩
      | false =>
        have HRf := hide (show verdB xs ⟨true, o, cs⟩ = false by rw [HR.out]; simp [hs])
        rw [hs] at HS1
        clear hs
        go_wp2_with (go_at_call 30; refine HS1.out.mono ?_; rintro e w2 ⟨rfl, hb2⟩; have HB2 := hide (HB1.out.trans (hb2.mono HB1.out.size)); clear hb2)
        go_ret
        exact ⟨ret_bool HRf.out.symm, HB2.out⟩
    | false =>
      have HV1 := hide (HVr.out A1 c1 w1 HB1.out HR1.out)
      by_cases hz : o.length = 0
      · have hzb : ((o.length : Int) == 0) = true := by rw [beq_iff_eq]; omega
        have HRt := hide (show verdB xs ⟨false, o, cs⟩ = rightB xs cs by rw [HR.out]; cases o with | nil => simp | cons _ _ => simp at hz)
        clear hz
        go_wp2_with (go_at_call 31; refine HV1.out.mono ?_; rintro e w2 ⟨rfl, hb2⟩; have HB2 := hide (HB1.out.trans (hb2.mono HB1.out.size)); clear hb2)
        go_ret
        exact ⟨ret_bool HRt.out.symm, HB2.out⟩
      · have hzb : ((o.length : Int) == 0) = false := by rw [beq_eq_false_iff_ne]; omega
        have HRf := hide (show verdB xs ⟨false, o, cs⟩ = false by rw [HR.out]; cases o with | nil => simp at hz | cons _ _ => simp)
        clear hz
        go_wp2_with fail
        go_ret
        exact ⟨ret_bool HRf.out.symm, HB1.out⟩
  · have HR := hide (verdB_no (v := ⟨g, o, cs⟩) hne)
    rw [decide_eq_false hne] at HOi
    clear hne
    go_wp2_with (go_at_call 29; refine HOi.out.mono ?_; rintro e w1 ⟨v1, rfl, hS1, hb1⟩; obtain ⟨A1, c1, rfl, h11, h12, h13⟩ := hS1; have HB1 := hide (HB0.out.trans (hb1.mono HB0.out.size)); clear hb1 h13)
    go_ret
    exact ⟨ret_bool HR.out.symm, HB1.out⟩
end Go.Proofs.YtjiobgfaohldhaaGreat
namespace Go.Proofs.YtjiobgfaohldhaaGreat
open Go.RowKit
set_option linter.unusedVariables false
set_option linter.unusedSimpArgs false

theorem allO_valid {h : List Txn} (hne : 0 < (allO h).length) : histV h = true := (allO_ok.1 (fun e => by rw [e] at hne; exact absurd hne (by simp))).1
theorem allO_bd3 (h : List Txn) : ∀ x ∈ allO h, x.length ≤ 3 ∧ ∀ o ∈ x, o.length ≤ 6 := fun x hx => by
  have hne : allO h ≠ [] := fun e => by rw [e] at hx; cases hx
  have hv := (allO_ok.1 hne).1
  rw [allO_eq hne] at hx
  exact ⟨Nat.le_of_eq (partO_mlen h 3 x hx), partO_ilen hv 3 x hx⟩
set_option maxRecDepth 10000 in
set_option maxHeartbeats 4000000 in
theorem specVerdictRight (xs : List Txn) (g : Bool) (o : List Int) (cs : List (List Int)) (A B C : Option Addr) (c d e0 : Nat) (w : World) (hm : xs.length ≤ 1048576) (hn : ∀ x ∈ xs, x.Ops.length ≤ 1048576) (ht : opsN xs ≤ 1048576) (hmo : o.length ≤ 1048576) (hlc : cs.length ≤ 1048576) (hnc : ∀ x ∈ cs, x.length ≤ 1048576) (hA : Row tTxn w (Old w) A xs) (hB : Row tInt w (Old w) B o) (hC : Row (tSlice tInt) w (Old w) C cs) :
    Calls Tryz.prog 7 #[.slice A xs.length c, .agg #[.bool g, .slice B o.length d, .slice C cs.length e0]] w fun e w' => e = .returned (.bool (verdB xs ⟨g, o, cs⟩)) ∧ Below w.heap.size w w' := by
  have HB0 := hide ((Below.refl _ w).alloc (Nat.le_refl _) (.cells #[.bool g, .slice B o.length d, .slice C cs.length e0] 32))
  have HX0 := hide (Blk.new w 32 #[.bool g, .slice B o.length d, .slice C cs.length e0])
  have HAo := hide (specAllOrders xs A c _ hm hn ht (hA.old HB0.out))
  have hz0 : w.heap.size < (w.alloc (.cells #[.bool g, .slice B o.length d, .slice C cs.length e0] 32)).heap.size := by simp
  have HSr := hide (fun (W : World) (hb : Below w.heap.size w W) => specSerialRight xs o A B c d W (by simp only [maxLen]; omega) ht (by simp only [maxLen]; omega) (hA.old hb) (hB.old hb))
  have HRd := hide (fun (hv : histV xs = true) (W : World) (hb : Below w.heap.size w W) => specReadsRight xs A c W hv ht (hA.old hb))
  have hl2 := allO_len xs
  have HBd := hide (allO_bd3 xs)
  have HA := hide hA; have HC := hide hC; have HN := hide hnc; have HT := hide ht
  have hqo : o.length ≤ 9223372036854775807 := by omega
  have hqc : cs.length ≤ 9223372036854775807 := by omega
  have hqx : xs.length ≤ 9223372036854775807 := by omega
  clear hA hB hC hnc hn ht
  go_enter Tryz.func7, Tryz.ntmps7
  go_upto_region 1 with fail
  generalize w.alloc _ = W at HB0 HX0 HAo hz0 ⊢
  have HXc := hide (fun (W2 : World) (hb : Below W.heap.size W W2) => And.intro ((HX0.out.below hb HX0.out.lt).cell 0) (And.intro ((HX0.out.below hb HX0.out.lt).cell 1) ((HX0.out.below hb HX0.out.lt).cell 2)))
  simp only [List.getElem?_toArray, List.getElem?_cons_zero, List.getElem?_cons_succ] at HXc
  by_cases hne : 0 < (allO xs).length
  · have HR := hide (verdB_yes (v := ⟨g, o, cs⟩) hne)
    have HV := hide (allO_valid hne)
    have HRB0 := hide (show rightB xs cs = (if readsB xs then cs.length == (allO xs).length && cycsB xs (allO xs) cs (allO xs).length else cs.isEmpty) from rfl)
    have hqa : (allO xs).length ≤ 9223372036854775807 := by omega
    have hzb : (((allO xs).length : Int) == 0) = false := by rw [beq_eq_false_iff_ne]; omega
    go_upto_region 4 with (go_at_call 21; refine HAo.out.mono ?_; rintro e w1 ⟨v1, rfl, hS1, hb1⟩; obtain ⟨A1, c1, rfl, h11, h12, h13⟩ := hS1; have HR1 := hide (h13.mono (w' := w1) (S' := Old w1) (fun b h => h.2) (fun _ _ => rfl)); have HB1 := hide (HB0.out.trans (hb1.mono HB0.out.size)); have HW1 := hide hb1; clear hb1 h13)
    obtain ⟨x0, x1, x2⟩ := HXc.out w1 HW1.out
    clear hne
    generalize allO xs = all at HR HRB0 HR1 HBd hl2 hqa hzb h11 ⊢
    cases g with
    | true =>
      have HS1 := hide (HSr.out w1 HB1.out)
      cases hs : serB xs o with
      | true =>
        have HRt := hide (show verdB xs ⟨true, o, cs⟩ = cs.isEmpty by rw [HR.out]; simp [hs])
        rw [hs] at HS1
        clear hs
        have HX2 := hide (fun (W2 : World) (hb : Below w1.heap.size w1 W2) => HXc.out W2 (HW1.out.trans (hb.mono HW1.out.size)))
        go_wp2_with (go_at_call 22; refine HS1.out.mono ?_; rintro e w2 ⟨rfl, hb2⟩; obtain ⟨y0, y1, y2⟩ := HX2.out w2 hb2; have HB2 := hide (HB1.out.trans (hb2.mono HB1.out.size)); clear hb2)
        go_ret
        exact ⟨ret_bool (by rw [HRt.out]; cases cs <;> simp <;> omega), HB2.out⟩
      | false =>
        have HRf := hide (show verdB xs ⟨true, o, cs⟩ = false by rw [HR.out]; simp [hs])
        rw [hs] at HS1
        clear hs
        go_wp2_with (go_at_call 22; refine HS1.out.mono ?_; rintro e w2 ⟨rfl, hb2⟩; have HB2 := hide (HB1.out.trans (hb2.mono HB1.out.size)); clear hb2)
        go_ret
        exact ⟨ret_bool HRf.out.symm, HB2.out⟩
    | false =>
      have HD1 := hide (HRd.out HV.out w1 HB1.out)
      have HX2 := hide (fun (W2 : World) (hb : Below w1.heap.size w1 W2) => HXc.out W2 (HW1.out.trans (hb.mono HW1.out.size)))
      cases hrb : readsB xs with
      | false =>
        have HRt := hide (show verdB xs ⟨false, o, cs⟩ = (decide (o.length = 0) && decide (cs.length = 0)) by rw [HR.out, HRB0.out, hrb]; cases o <;> cases cs <;> simp)
        rw [hrb] at HD1
        clear hrb
        by_cases hz : o.length = 0
        · have hzo : ((o.length : Int) == 0) = true := by rw [beq_iff_eq]; omega
          have HRt2 := hide (show verdB xs ⟨false, o, cs⟩ = decide (cs.length = 0) by rw [HRt.out, decide_eq_true hz]; rfl)
          clear hz
          go_wp2_with (go_at_call 23; refine HD1.out.mono ?_; rintro e w2 ⟨rfl, hb2⟩; obtain ⟨y0, y1, y2⟩ := HX2.out w2 hb2; have HB2 := hide (HB1.out.trans (hb2.mono HB1.out.size)); clear hb2)
          go_ret
          exact ⟨ret_bool (by rw [HRt2.out, Bool.eq_iff_iff, beq_iff_eq, decide_eq_true_iff]; omega), HB2.out⟩
        · have hzo : ((o.length : Int) == 0) = false := by rw [beq_eq_false_iff_ne]; omega
          have HRf := hide (show verdB xs ⟨false, o, cs⟩ = false by rw [HRt.out, decide_eq_false hz]; rfl)
          clear hz
          go_wp2_with (go_at_call 23; refine HD1.out.mono ?_; rintro e w2 ⟨rfl, hb2⟩; obtain ⟨y0, y1, y2⟩ := HX2.out w2 hb2; have HB2 := hide (HB1.out.trans (hb2.mono HB1.out.size)); clear hb2)
          go_ret
          exact ⟨ret_bool HRf.out.symm, HB2.out⟩
      | true =>
        have HRt := hide (show verdB xs ⟨false, o, cs⟩ = (decide (o.length = 0) && (decide (cs.length = all.length) && cycsB xs all cs all.length)) by rw [HR.out, HRB0.out, hrb]; cases o <;> simp [Bool.beq_eq_decide_eq])
        rw [hrb] at HD1
        clear hrb
        go_upto_region 9 with (go_at_call 23; refine HD1.out.mono ?_; rintro e w2 ⟨rfl, hb2⟩; have HW2 := hide (HW1.out.trans (hb2.mono HW1.out.size)); have HB2 := hide (HB1.out.trans (hb2.mono HB1.out.size)); have HV2 := hide hb2; clear hb2)
        go_loopw [6] (fun i wr => ∃ k : Nat, k ≤ all.length ∧ k ≤ cs.length ∧ i = .int .i64 k ∧ Hid (cycsB xs all cs k = true) ∧ Hid (Below w2.heap.size w2 wr)) (fun i _ => all.length - (intOf i).toNat)
        case atStart => exact ⟨0, Nat.zero_le _, Nat.zero_le _, rfl, rfl, Below.refl _ _⟩
        case round =>
          obtain ⟨k, hk, hkx, rfl, hI, hb⟩ := hrel
          have HI := hide hI.out; have HBk := hide hb.out
          clear hI hb
          have HB3 := hide (HB2.out.trans (HBk.out.mono HB2.out.size))
          have HW3 := hide (HW2.out.trans (HBk.out.mono HW2.out.size))
          obtain ⟨x0, x1, x2⟩ := HXc.out wr HW3.out
          by_cases hkc : k < cs.length
          · have hkc1 : (k : Int) < (cs.length : Int) := by omega
            by_cases hlt : k < all.length
            · have hki : (k : Int) < (all.length : Int) := by omega
              have HB13 := hide (HV2.out.trans (HBk.out.mono HV2.out.size))
              obtain ⟨b7, off7, A7, c7, rfl, hb7, g0, g1, g2, hR7⟩ := at_SliceG HR1.out hlt
              obtain ⟨b8, off8, A8, c8, rfl, hb8, i0, i1, i2, hR8⟩ := at_SliceG HC.out hkc
              have HBw := hide (fun (W2 : World) (hb : Below wr.heap.size wr W2) => HB3.out.trans (hb.mono HB3.out.size))
              have HX3 := hide (fun (W2 : World) (hb : Below wr.heap.size wr W2) => (HXc.out W2 (HW3.out.trans (hb.mono HW3.out.size))).2.2)
              have HX2 := HX3
              have HC7 := hide (fun (W2 : World) (hb : Below wr.heap.size wr W2) => ((HB13.out.trans (hb.mono HB13.out.size)).cell (p := ⟨b7, off7 + k, none⟩) hb7).trans g0)
              have HC8 := hide (fun (W2 : World) (hb : Below wr.heap.size wr W2) => ((HBw.out W2 hb).cell (p := ⟨b8, off8 + k, none⟩) hb8).trans i0)
              have HR8 := hide (fun (W2 : World) (hb : Below wr.heap.size wr W2) => hR8.old (HBw.out W2 hb))
              have hbd := HBd.out all[k] (List.getElem_mem hlt)
              have HEd := hide (fun (W2 : World) (hb : Below wr.heap.size wr W2) => specEdgesOf xs all[k] A A7 c c7 W2 (by simp only [maxLen]; omega) HT.out (by omega) (fun o ho => by have := hbd.2 o ho; omega) (HA.out.old (HBw.out W2 hb)) (hR7.old (HB13.out.trans (hb.mono HB13.out.size))))
              have hel := edgR_len xs all[k]
              have HSu := hide (cycsB_succ hlt hkc HI.out)
              have HSt := hide (fun hc => cycsB_stop (h := xs) (all := all) (cs := cs) hlt hkc hc)
              have hcy := HN.out _ (List.getElem_mem hkc)
              clear hR7 hR8 i0 g0 hbd x0 x1
              generalize edgR xs all[k] = es at HEd hel HSu HSt
              generalize all[k] = os at g1 HEd HC7
              generalize cs[k] = cy at i1 HC8 HR8 HSu HSt hcy
              go_upto_region 11 with fail
              clear x2
              refine wp_region_facts 13 (fun _ W => Below wr.heap.size wr W) (FRow tEdge es 7 (fun q9 : Nat => match q9 with | 0 => .slice A xs.length c | 1 => .int .i64 (xs.length : Int) | 2 => .slice A xs.length c | 3 => .slice (some ⟨b7, off7, none⟩) all.length c1 | 4 => .int .i64 (k : Int) | 5 => .pointer (some ⟨b7, off7 + k, none⟩) | 6 => .slice A7 os.length c7 | 7 => undef | 8 => .pointer (some ⟨w.heap.size, 2, none⟩) | 9 => .slice (some ⟨b8, off8, none⟩) cs.length e0 | 10 => .int .i64 (k : Int) | 11 => .pointer (some ⟨b8, off8 + k, none⟩) | 12 => .slice A8 cy.length c8 | _ => undef)) (fun _ a b => Below a.heap.size a b) [some 50, some 51, some 52, some 53, some 54, some 55, some 56, some 57, some 58, some 59, some 60, some 61, some 62] (by kernel_rfl) (by kernel_rfl) (by kernel_rfl) (by kernel_rfl) ?_ ?_ ?_ ?_
              · exact (Below.refl _ wr).drew
              · intro i k9 v wa wb _ _ _ hF hE; exact hF.ev hE
              · intro i o hi ho a wa L9 hL hJ hc hd K hK
                have hi' : i = 0 ∨ i = 1 ∨ i = 2 ∨ i = 3 ∨ i = 4 ∨ i = 5 ∨ i = 6 ∨ i = 7 ∨ i = 8 ∨ i = 9 ∨ i = 10 ∨ i = 11 ∨ i = 12 := by omega
                clear hi
                rcases hi' with rfl | rfl | rfl | rfl | rfl | rfl | rfl | rfl | rfl | rfl | rfl | rfl | rfl
                all_goals
                  simp only [List.getElem?_toArray, List.getElem?_cons_zero, List.getElem?_cons_succ, Option.some.injEq] at ho
                  subst ho
                  simp only [reduceCtorEq, if_false] at hK
                · have e0 := (hc 0 (by kernel_rfl)).trans rfl
                  go_simp
                  exact hK _ _ (FRow.val (by decide) rfl) hJ (Below.refl _ _)
                · have e50 : a.tmps.getD 50 undef = .slice A xs.length c := (hd 0 50 (by kernel_rfl)).get (by decide)
                  go_simp
                  exact hK _ _ (FRow.val (by decide) rfl) hJ (Below.refl _ _)
                · have e0 := (hc 0 (by kernel_rfl)).trans rfl
                  go_simp
                  exact hK _ _ (FRow.val (by decide) rfl) hJ (Below.refl _ _)
                · have e5 := (hc 5 (by kernel_rfl)).trans rfl
                  go_simp
                  exact hK _ _ (FRow.val (by decide) rfl) hJ (Below.refl _ _)
                · have e6 := (hc 6 (by kernel_rfl)).trans rfl
                  go_simp
                  exact hK _ _ (FRow.val (by decide) rfl) hJ (Below.refl _ _)
                · have e53 : a.tmps.getD 53 undef = .slice (some ⟨b7, off7, none⟩) all.length c1 := (hd 3 53 (by kernel_rfl)).get (by decide)
                  have e54 : a.tmps.getD 54 undef = .int .i64 (k : Int) := (hd 4 54 (by kernel_rfl)).get (by decide)
                  have s2 : k < all.length := hlt
                  go_simp
                  exact hK _ _ (FRow.val (by decide) rfl) hJ (Below.refl _ _)
                · have e55 : a.tmps.getD 55 undef = .pointer (some ⟨b7, off7 + k, none⟩) := (hd 5 55 (by kernel_rfl)).get (by decide)
                  have c9 := HC7.out wa hJ
                  go_simp
                  exact hK _ _ (FRow.val (by decide) rfl) hJ (Below.refl _ _)
                · have e52 : a.tmps.getD 52 undef = .slice A xs.length c := (hd 2 52 (by kernel_rfl)).get (by decide)
                  have e56 : a.tmps.getD 56 undef = .slice A7 os.length c7 := (hd 6 56 (by kernel_rfl)).get (by decide)
                  go_simp
                  refine (HEd.out wa hJ).mono ?_
                  rintro e w9 ⟨v9, rfl, hO9, hb9⟩
                  obtain ⟨A9, d9, rfl, h91, h92, h93⟩ := hO9
                  exact hK _ _ (FRow.mk (h93.mono (fun b h => h.2) (fun _ _ => rfl))) (hJ.trans (hb9.mono hJ.size)) hb9
                · have e3 := (hc 3 (by kernel_rfl)).trans rfl
                  go_simp
                  exact hK _ _ (FRow.val (by decide) rfl) hJ (Below.refl _ _)
                · have e58 : a.tmps.getD 58 undef = .pointer (some ⟨w.heap.size, 2, none⟩) := (hd 8 58 (by kernel_rfl)).get (by decide)
                  have c9 := HX2.out wa hJ
                  go_simp
                  exact hK _ _ (FRow.val (by decide) rfl) hJ (Below.refl _ _)
                · have e6 := (hc 6 (by kernel_rfl)).trans rfl
                  go_simp
                  exact hK _ _ (FRow.val (by decide) rfl) hJ (Below.refl _ _)
                · have e59 : a.tmps.getD 59 undef = .slice (some ⟨b8, off8, none⟩) cs.length e0 := (hd 9 59 (by kernel_rfl)).get (by decide)
                  have e60 : a.tmps.getD 60 undef = .int .i64 (k : Int) := (hd 10 60 (by kernel_rfl)).get (by decide)
                  have s2 : k < cs.length := hkc
                  go_simp
                  exact hK _ _ (FRow.val (by decide) rfl) hJ (Below.refl _ _)
                · have e61 : a.tmps.getD 61 undef = .pointer (some ⟨b8, off8 + k, none⟩) := (hd 11 61 (by kernel_rfl)).get (by decide)
                  have c9 := HC8.out wa hJ
                  go_simp
                  exact hK _ _ (FRow.val (by decide) rfl) hJ (Below.refl _ _)
              · intro vs wz L9 hL hJ hF
                obtain ⟨A9, d9, f7, hR9⟩ := (hF 7 (by decide)).row
                have f1 : vs 1 = .int .i64 (xs.length : Int) := (hF 1 (by decide)).get (by decide)
                have f12 : vs 12 = .slice A8 cy.length c8 := (hF 12 (by decide)).get (by decide)
                simp only [putD, Act.put, List.setIfInBounds_toArray, List.set_cons_zero, List.set_cons_succ, List.drop_succ_cons, List.drop_zero]
                rw [f1, f7, f12]
                clear hF f1 f7 f12
                have HCr := hide (specCycleRight (xs.length : Int) es cy A9 A8 d9 c8 wz (by simp only [maxLen]; omega) (by simp only [maxLen]; omega) hR9 (HR8.out wz hJ))
                have HJ := hide (HBk.out.trans (hJ.mono HBk.out.size))
                clear hJ hR9
                cases hcv : cycV (xs.length : Int) es cy with
                | true =>
                  have HI2 := hide (HSu.out.trans hcv)
                  rw [hcv] at HCr
                  clear hcv
                  go_wp2_with (go_at_call 24; refine HCr.out.mono ?_; rintro e w5 ⟨rfl, hb5⟩; have HB5 := hide (HJ.out.trans (hb5.mono HJ.out.size)); clear hb5)
                  go_roundw
                  case rel => exact ⟨k + 1, by omega, by omega, by go_num, HI2.out, HB5.out⟩
                  case measure => simp [intOf]; omega
                | false =>
                  have HRf := hide (show verdB xs ⟨false, o, cs⟩ = false by rw [HRt.out, HSt.out hcv]; simp)
                  rw [hcv] at HCr
                  clear hcv
                  go_wp2_with (go_at_call 24; refine HCr.out.mono ?_; rintro e w5 ⟨rfl, hb5⟩; have HB5 := hide (HB2.out.trans ((HJ.out.trans (hb5.mono HJ.out.size)).mono HB2.out.size)); clear hb5)
                  go_ret
                  exact ⟨ret_bool HRf.out.symm, HB5.out⟩
            · obtain rfl : k = all.length := by omega
              have hki : ¬ (all.length : Int) < (all.length : Int) := by omega
              have HRf := hide (show verdB xs ⟨false, o, cs⟩ = false by rw [HRt.out, decide_eq_false (by omega : ¬ cs.length = all.length)]; simp)
              have hne2 : ((cs.length : Int) == (all.length : Int)) = false := by rw [beq_eq_false_iff_ne]; omega
              by_cases hz : o.length = 0
              · have hzo : ((o.length : Int) == 0) = true := by rw [beq_iff_eq]; omega
                clear hz
                go_wp2_with fail
                go_ret
                exact ⟨ret_bool HRf.out.symm, HB3.out⟩
              · have hzo : ((o.length : Int) == 0) = false := by rw [beq_eq_false_iff_ne]; omega
                clear hz
                go_wp2_with fail
                go_ret
                exact ⟨ret_bool HRf.out.symm, HB3.out⟩
          · obtain rfl : k = cs.length := by omega
            have HRe := hide (show verdB xs ⟨false, o, cs⟩ = (decide (o.length = 0) && decide (cs.length = all.length)) by
              rw [HRt.out]
              by_cases hc : cs.length = all.length
              · rw [← hc, HI.out]; simp
              · rw [decide_eq_false hc]; simp)
            by_cases hz : o.length = 0
            · have hzo : ((o.length : Int) == 0) = true := by rw [beq_iff_eq]; omega
              have HRe2 := hide (show verdB xs ⟨false, o, cs⟩ = decide (cs.length = all.length) by rw [HRe.out, decide_eq_true hz]; rfl)
              clear hz
              go_wp2_with fail
              go_ret
              exact ⟨ret_bool (by rw [HRe2.out, Bool.eq_iff_iff, beq_iff_eq, decide_eq_true_iff]; omega), HB3.out⟩
            · have hzo : ((o.length : Int) == 0) = false := by rw [beq_eq_false_iff_ne]; omega
              have HRf := hide (show verdB xs ⟨false, o, cs⟩ = false by rw [HRe.out, decide_eq_false hz]; rfl)
              clear hz
              go_wp2_with fail
              go_ret
              exact ⟨ret_bool HRf.out.symm, HB3.out⟩
  · have HR := hide (verdB_no (v := ⟨g, o, cs⟩) hne)
    have hzb : (((allO xs).length : Int) == 0) = true := by rw [beq_iff_eq]; omega
    clear hne
    go_wp2_with (go_at_call 21; refine HAo.out.mono ?_; rintro e w1 ⟨v1, rfl, hS1, hb1⟩; obtain ⟨A1, c1, rfl, h11, h12, h13⟩ := hS1; have HB1 := hide (HB0.out.trans (hb1.mono HB0.out.size)); clear hb1 h13)
    go_ret
    exact ⟨ret_bool HR.out.symm, HB1.out⟩
end Go.Proofs.YtjiobgfaohldhaaGreat
