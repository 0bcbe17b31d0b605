/- The reference's VerdictOf. The program's Verdict.right and VerdictRight. -/
import Derived.Test.YtjiobgfaohldhaaGreatDoorQPutN
import Derived.Test.YtjiobgfaohldhaaGreatDoorQAllS
import Derived.Test.YtjiobgfaohldhaaGreatDoorQSReads
import Derived.Test.YtjiobgfaohldhaaGreatDoorQOrders
import Derived.Test.YtjiobgfaohldhaaGreatDoorQHoldS
import Derived.Test.YtjiobgfaohldhaaGreatDoorQCycO
import Derived.Test.YtjiobgfaohldhaaGreatDoorQVerI
import Derived.Test.YtjiobgfaohldhaaGreatDoorQLevI
namespace Go.Proofs.YtjiobgfaohldhaaGreatDoor
open Go.RowKit
set_option linter.unusedVariables false
set_option linter.unusedSimpArgs false

/-- What the reference's VerdictOf answers, in memory of its own. -/
def VerdPostS (xs : List Txn) (w : World) (e : Ending) (w' : World) : Prop :=
  ∃ vo vc, e = .returned (.tuple #[.agg #[.bool (verdD xs).Good, vo, vc], .bool (verdO xs).isSome]) ∧ Sl tInt w' (New w w') (verdD xs).Order vo ∧ Sl (tSlice tInt) w' (New w w') (verdD xs).Cycles vc ∧ Below w.heap.size w w'
theorem slv_nil {α : Type} {T : Ty α} {w : World} {S : Nat → Prop} : Sl T w S ([] : List α) (.slice none 0 0) := ⟨none, 0, rfl, Nat.le_refl _, by simp [maxLen], Row.nil⟩
theorem allO_hist2 {h : List Txn} (hne : 0 < (allO h).length) : histV h = true := (allO_ok.1 (fun e => by rw [e] at hne; exact absurd hne (by simp))).1
theorem allO_bd4 (h : List Txn) : ∀ x ∈ allO h, x.length ≤ 3 ∧ ∀ o ∈ x, o.length ≤ 6 := fun x hx => by
  have hne : allO h ≠ [] := fun e => by rw [e] at hx; cases hx
  have hv := (allO_ok.1 hne).1
  rw [allO_eq hne] at hx
  exact ⟨Nat.le_of_eq (partO_mlen h 3 x hx), partO_ilen hv 3 x hx⟩
set_option maxRecDepth 10000 in
set_option maxHeartbeats 4000000 in
theorem specVerdictOf (xs : List Txn) (A : Option Addr) (c : Nat) (w : World) (hm : xs.length ≤ 1048576) (hn : ∀ x ∈ xs, x.Ops.length ≤ 1048576) (ht : opsN xs ≤ 1048576) (hA : Row tTxn w (Old w) A xs) :
    Calls Tryz.prog 18 #[.slice A xs.length c] w (VerdPostS xs w) := by
  obtain ⟨i1, hi1, hz01, hz11, hz21⟩ := info_parts infoIntS_
  have HB0 := hide ((Below.refl _ w).alloc (Nat.le_refl _) (.cells #[.bool false, .slice none 0 0, .slice none 0 0] 35))
  have HX0 := hide (Blk.new w 35 #[.bool false, .slice none 0 0, .slice none 0 0])
  have HOw := hide (ownTxnList xs A c _ hm hn (hA.old HB0.out))
  have hz0 : w.heap.size < (w.alloc (.cells #[.bool false, .slice none 0 0, .slice none 0 0] 35)).heap.size := by simp
  have hl2 := allO_len xs
  have HBd := hide (allO_bd4 xs)
  have HN := hide hn; have HT := hide ht
  have hqx : xs.length ≤ 9223372036854775807 := by omega
  clear hA hn ht
  go_enter Tryz.func18, Tryz.ntmps18
  go_upto_region 1 with fail
  generalize w.alloc _ = W at HB0 HX0 HOw hz0 ⊢
  have HXc := hide (fun (W2 : World) (hb : Below W.heap.size W W2) => HX0.out.below hb HX0.out.lt)
  go_upto_region 2 with (go_at_call 45; refine HOw.out.mono ?_; rintro e w1 ⟨v1, rfl, hO1, hb1⟩; obtain ⟨A0, c0, rfl, h01, h02, h13⟩ := hO1.weakTxn.sl; have HA1 := hide (h13.mono (w' := w1) (S' := Old w1) (fun b h => h.2) (fun _ _ => rfl)); have HB1 := hide (HB0.out.trans (hb1.mono HB0.out.size)); have HW1 := hide hb1; clear hb1 h13 hO1)
  have HAo := hide (specAllOrders xs A0 c0 w1 hm HN.out HT.out HA1.out)
  by_cases hne : 0 < (allO xs).length
  · have HV := hide (allO_hist2 hne)
    have HNe := hide hne
    have hzb : (((allO xs).length : Int) == 0) = false := by rw [beq_eq_false_iff_ne]; omega
    go_upto_region 5 with (go_at_call 24; refine HAo.out.mono ?_; rintro e w2 ⟨v2, rfl, hS1, hb2⟩; obtain ⟨A1, c1, rfl, h11, h12, h13⟩ := hS1; have HR2 := hide (h13.mono (w' := w2) (S' := Old w2) (fun b h => h.2) (fun _ _ => rfl)); have HV2 := hide hb2; clear hb2 h13)
    have HW2 := hide (HW1.out.trans (HV2.out.mono HW1.out.size))
    have HB2 := hide (HB1.out.trans (HV2.out.mono HB1.out.size))
    have HFs := hide (specFindSerial xs A0 c0 w2 (by simp only [maxLen]; omega) HT.out (HA1.out.old HV2.out))
    have HZ2 := hide HW2.out.size
    cases hf : findF xs with
    | some o =>
      have HR := hide (verdO_ser hne hf)
      rw [hf] at HFs
      clear hf hne
      go_wp2_with (go_at_call 46; refine HFs.out.mono ?_; rintro e w3 ⟨v2, rfl, hH2, hb2⟩; have hX2 := HXc.out w3 (HW2.out.trans (hb2.mono HW2.out.size)); have HB3 := hide (HB2.out.trans (hb2.mono HB2.out.size)); have HH2 := hide hH2; obtain ⟨A2, c2, rfl, _, _, _⟩ := hH2; have e0 := hX2.cell 0; have e1 := hX2.cell 1; have e2 := hX2.cell 2; have f0 := hX2.frozen 0; have f1 := hX2.frozen 1; have f2 := hX2.frozen 2; simp only [List.getElem?_toArray, List.getElem?_cons_zero, List.getElem?_cons_succ] at e0 e1 e2; have HZ3 := hide hb2.size; clear hX2 hb2)
      have hzz : w.heap.size < w3.heap.size := by have := HZ2.out; have := HZ3.out; omega
      refine bodyPost_ret (v := .tuple #[.agg #[.bool true, .slice A2 o.length c2, .slice none 0 0], .bool true]) (by simp [results, Tryz.results18, go_sem, e0, e1, e2]) rfl ⟨_, _, by rw [verdD, HR.out]; rfl, ?_, ?_, ?_⟩
      · rw [verdD, HR.out]
        refine HH2.out.mono (fun b h => ⟨by have := h.1; have := HZ2.out; omega, by simpa using h.2⟩) (fun b h => ?_)
        have h1 := h.1
        have h2 := HZ2.out
        repeat (first | rw [Below.heap_setCell _ _ _ _ (by simp; try omega)])
      · rw [verdD, HR.out]; exact slv_nil
      · repeat (first | refine Below.setCell ?_ (by simp; try omega) _ | exact HB3.out)
    | none =>
      rw [hf] at HFs
      go_upto_region 8 with (go_at_call 46; refine HFs.out.mono ?_; rintro e w4 ⟨v2, rfl, hH2, hb2⟩; have HB4 := hide (HB2.out.trans (hb2.mono HB2.out.size)); have HV4 := hide hb2; obtain ⟨A2, c2, rfl, _, _, _⟩ := hH2; clear hb2)
      go_upto_region 10 with fail
      obtain ⟨w3, hw3⟩ : ∃ w3, w3 = w4.alloc (.cells #[.bool false, .slice none 0 0, .slice none 0 0] 35) := ⟨_, rfl⟩
      have HB3 := hide (show Below w.heap.size w w3 by rw [hw3]; exact HB4.out.alloc HB4.out.size _)
      have HV3 := hide (show Below w2.heap.size w2 w3 by rw [hw3]; exact HV4.out.alloc HV4.out.size _)
      have HY3 := hide (show Blk w3 w4.heap.size 35 #[.bool false, .slice none 0 0, .slice none 0 0] by rw [hw3]; exact Blk.new w4 35 #[.bool false, .slice none 0 0, .slice none 0 0])
      have hzg : w4.heap.size < w3.heap.size := by rw [hw3]; simp
      rw [← hw3]
      have HZ4 := hide HV4.out.size
      clear hw3
      have hgw : w.heap.size < w4.heap.size := by have := HZ2.out; have := HZ4.out; omega
      have HX3 := hide (HXc.out w3 (HW2.out.trans (HV3.out.mono HW2.out.size)))
      have HA3 := hide (HA1.out.old (HV2.out.trans (HV3.out.mono HV2.out.size)))
      have HRd := hide (fun (W2 : World) (hb : Below w3.heap.size w3 W2) => specReadsRight xs A0 c0 W2 HV.out HT.out (HA3.out.old hb))
      cases hrb : readsB xs with
      | false =>
        have HR := hide (verdO_bad hne hf hrb)
        rw [hrb] at HRd
        clear hrb hf hne
        have HRd0 := hide (HRd.out w3 (Below.refl _ _))
        go_loopw [8] (fun i wr => i = .int .i64 0 ∧ wr = w3) (fun _ _ => 0)
        case atStart => exact ⟨rfl, rfl⟩
        case round =>
          obtain ⟨rfl, rfl⟩ := hrel
          have hki : (0 : Int) < ((allO xs).length : Int) := by have := HNe.out; omega
          go_wp2_with (go_at_call 40; refine HRd0.out.mono ?_; rintro e w5 ⟨rfl, hb4⟩; have hX4 := HX3.out.below hb4 HX3.out.lt; have hY4 := HY3.out.below hb4 HY3.out.lt; have HB5 := hide (HB3.out.trans (hb4.mono HB3.out.size)); have e0 := hX4.cell 0; have e1 := hX4.cell 1; have e2 := hX4.cell 2; have f0 := hX4.frozen 0; have f1 := hX4.frozen 1; have f2 := hX4.frozen 2; have d0 := hY4.cell 0; have d1 := hY4.cell 1; have d2 := hY4.cell 2; simp only [List.getElem?_toArray, List.getElem?_cons_zero, List.getElem?_cons_succ] at e0 e1 e2 d0 d1 d2; have HZ5 := hide hb4.size; clear hX4 hY4 hb4)
          have hzz : w.heap.size < w5.heap.size := by have := HZ5.out; omega
          refine bodyPost_ret (v := .tuple #[.agg #[.bool false, .slice none 0 0, .slice none 0 0], .bool true]) (by simp [results, Tryz.results18, go_sem, e0, e1, e2]) rfl ⟨_, _, by rw [verdD, HR.out]; rfl, ?_, ?_, ?_⟩
          · rw [verdD, HR.out]; exact slv_nil
          · rw [verdD, HR.out]; exact slv_nil
          · repeat (first | refine Below.setCell ?_ (by simp; try omega) _ | exact HB5.out)
      | true =>
        have HR := hide (verdO_cyc hne hf hrb)
        have HRb := hide hrb
        clear hrb hf hne
        have HCa := hide (cycK_all xs)
        have hqa : (allO xs).length ≤ 9223372036854775807 := by omega
        clear hzb
        generalize allO xs = all at HR2 HBd hl2 h11 HCa hqa ⊢
        have HO0 := hide (show Own TB 27 w3 (fun b => w3.heap.size ≤ b ∧ Old w3 b) [] (.slice none 0 0) from Own.nil_)
        have HN0 := hide (Only.refl (fun b => w3.heap.size ≤ b ∨ b = w4.heap.size) w3)
        go_loopw [8] (fun i wr => ∃ (k : Nat) (cv : Value) (ps : List (List Int × Nat)), k ≤ all.length ∧ i = .int .i64 k ∧ Hid (ps.map Prod.fst = cycK xs all k) ∧ Hid (Far ps) ∧ Hid (Own TB 27 wr (fun b => w3.heap.size ≤ b ∧ Old wr b) ps cv) ∧ Hid (Blk wr w4.heap.size 35 #[.bool false, .slice none 0 0, cv]) ∧ Hid (Only (fun b => w3.heap.size ≤ b ∨ b = w4.heap.size) w3 wr)) (fun i _ => all.length - (intOf i).toNat)
        case atStart => exact ⟨0, _, [], Nat.zero_le _, rfl, rfl, (show Far [] from List.Pairwise.nil), HO0.out, HY3.out, HN0.out⟩
        case round =>
          obtain ⟨k, cv, ps, hk, rfl, hP, hFr, hO, hBk, hOn⟩ := hrel
          have HP := hide hP.out; have HFr := hide hFr.out; have HO1 := hide hO.out; have HBk := hide hBk.out; have HOn := hide hOn.out
          clear hP hFr hO hBk hOn HO0 HN0
          have HZr := hide HOn.out.size
          have HP2 := hide (below_only HV3.out HOn.out HV3.out.size (fun i hi => by have := HV3.out.size; have := HZ4.out; rcases hi with h | rfl <;> omega))
          have HPw := hide (below_only HB3.out HOn.out HB3.out.size (fun i hi => by have := HB3.out.size; rcases hi with h | rfl <;> omega))
          have hgr : w4.heap.size < wr.heap.size := by have := HZr.out; omega
          by_cases hlt : k < all.length
          · have hki : (k : Int) < (all.length : Int) := by omega
            have HRd5 := hide (specReadsRight xs A0 c0 wr HV.out HT.out (HA1.out.old (HV2.out.trans (HP2.out.mono HV2.out.size))))
            rw [HRb.out] at HRd5
            obtain ⟨b7, off7, A7, c7, rfl, hb7, g0, g1, g2, hR7⟩ := at_SliceG HR2.out hlt
            go_upto_region 12 with (go_at_call 40; refine HRd5.out.mono ?_; rintro e w5 ⟨rfl, hb5⟩; have HV5 := hide hb5; clear hb5)
            have HZ5 := hide HV5.out.size
            have HOc := hide (show Own TB 27 w5 (fun b => w3.heap.size ≤ b ∧ b < w5.heap.size) ps cv from own_stay HO1.out HV5.out)
            have HBk5 := hide (HBk.out.below HV5.out hgr)
            have HOn5 := hide (HOn.out.trans (Only.of_below HV5.out))
            have HP25 := hide (HP2.out.trans (HV5.out.mono HP2.out.size))
            have HPw5 := hide (HPw.out.trans (HV5.out.mono HPw.out.size))
            have HZr5 := hide (Nat.le_trans HZr.out HZ5.out)
            have hgr5 : w4.heap.size < w5.heap.size := by have := HZ5.out; omega
            clear HO1 HBk HOn HP2 HPw HZr hgr
            have HZr := HZr5
            have HXv := hide (fun (W2 : World) (hb : Only (fun b => w3.heap.size ≤ b) w5 W2) => (HBk5.out.of (hb.block w4.heap.size hgr5 (by omega))).cell 2)
            simp only [List.getElem?_toArray, List.getElem?_cons_zero, List.getElem?_cons_succ] at HXv
            have HX7 := hide (fun (W2 : World) (hb : Only (fun b => w3.heap.size ≤ b) w5 W2) => ((below_only HP25.out hb HP25.out.size (fun i hi => by have := HV3.out.size; omega)).cell (p := ⟨b7, off7 + k, none⟩) hb7).trans g0)
            have hbd := HBd.out all[k] (List.getElem_mem hlt)
            have HEd := hide (fun (W2 : World) (hb : Only (fun b => w3.heap.size ≤ b) w5 W2) => specEdgesOf xs all[k] A0 A7 c0 c7 W2 (by simp only [maxLen]; omega) HT.out (by omega) (fun o ho => by have := hbd.2 o ho; omega) (HA1.out.old (HV2.out.trans ((below_only HP25.out hb HP25.out.size (fun i hi => by have := HV3.out.size; omega)).mono HV2.out.size))) (hR7.old (below_only HP25.out hb HP25.out.size (fun i hi => by have := HV3.out.size; omega))))
            have hel := edgR_len xs all[k]
            have HCs := hide (cycK_succ xs all k hlt)
            have HPn := hide (show ps.length ≤ 200 by have h := congrArg List.length HP.out; rw [List.length_map, cycK_len xs all k (by omega)] at h; omega)
            clear hR7 hbd g0
            generalize edgR xs all[k] = es at HEd hel HCs
            generalize all[k] = os at g1 HEd HX7
            have HCy := hide (fun (A9 : Option Addr) (d9 : Nat) (W2 : World) (h : Row tEdge W2 (Old W2) A9 es) => specCycleOf (xs.length : Int) es A9 d9 W2 (by simp only [maxLen]; omega) h)
            generalize cycO (xs.length : Int) es = cy at HCy HCs
            refine wp_region_facts 14 (JVer w5 w3.heap.size 12) (FVer 9 w3.heap.size w5.heap.size es cy ps (fun q9 : Nat => match q9 with | 0 => .pointer (some ⟨w4.heap.size, 2, none⟩) | 1 => cv | 2 => .slice A0 xs.length c0 | 3 => .int .i64 (xs.length : Int) | 4 => .slice A0 xs.length c0 | 5 => .slice (some ⟨b7, off7, none⟩) all.length c1 | 6 => .int .i64 (k : Int) | 7 => .pointer (some ⟨b7, off7 + k, none⟩) | 8 => .slice A7 os.length c7 | 9 => undef | 10 => undef | 11 => undef | 12 => undef | 13 => .pointer (some ⟨w4.heap.size, 2, none⟩) | _ => undef)) (fun k9 a b => Only (fun q => q < w5.heap.size) a b ∧ (k9 ≠ 12 → Below a.heap.size a b)) [some 36, some 37, some 38, some 39, some 40, some 41, some 42, some 43, some 44, some 45, some 46, some 47, some 48, some 49] (by kernel_rfl) (by kernel_rfl) (by kernel_rfl) (by kernel_rfl) (JVer.start _ _ _ _) ?_ ?_ ?_
            · intro i k9 v wa wb _ _ hnd hF hE
              refine hF.ev hE.1 (fun e => hE.2 (fun e2 => ?_))
              subst e; subst e2
              exact absurd hnd (by rw [show needB _ _ _ _ = true by kernel_rfl]; simp)
            · intro i o hi ho a wa L9 hL hJ hc hd K hK
              have hz9 := hJ.only.size
              have hi' : i = 0 ∨ i = 1 ∨ i = 2 ∨ i = 3 ∨ i = 4 ∨ i = 5 ∨ i = 6 ∨ i = 7 ∨ i = 8 ∨ i = 9 ∨ i = 10 ∨ i = 11 ∨ i = 12 ∨ i = 13 := by omega
              clear hi
              rcases hi' with rfl | rfl | rfl | rfl | rfl | rfl | rfl | rfl | rfl | rfl | rfl | rfl | rfl | rfl
              all_goals
                simp only [List.getElem?_toArray, List.getElem?_cons_zero, List.getElem?_cons_succ, Option.some.injEq] at ho
                subst ho
                simp only [reduceCtorEq, if_false] at hK
              · have e7 := (hc 7 (by kernel_rfl)).trans rfl
                go_simp
                exact hK _ _ (FVer.val (by decide) rfl) (hJ.up (by decide) (Below.refl _ _)) ⟨Only.of_below (Below.refl _ _), fun _ => Below.refl _ _⟩
              · have e36 : a.tmps.getD 36 undef = .pointer (some ⟨w4.heap.size, 2, none⟩) := (hd 0 36 (by kernel_rfl)).get (by decide)
                have c9 := HXv.out wa hJ.only
                go_simp
                exact hK _ _ (FVer.val (by decide) rfl) (hJ.up (by decide) (Below.refl _ _)) ⟨Only.of_below (Below.refl _ _), fun _ => Below.refl _ _⟩
              · have e0 := (hc 0 (by kernel_rfl)).trans rfl
                go_simp
                exact hK _ _ (FVer.val (by decide) rfl) (hJ.up (by decide) (Below.refl _ _)) ⟨Only.of_below (Below.refl _ _), fun _ => Below.refl _ _⟩
              · have e38 : a.tmps.getD 38 undef = .slice A0 xs.length c0 := (hd 2 38 (by kernel_rfl)).get (by decide)
                go_simp
                exact hK _ _ (FVer.val (by decide) rfl) (hJ.up (by decide) (Below.refl _ _)) ⟨Only.of_below (Below.refl _ _), fun _ => Below.refl _ _⟩
              · have e0 := (hc 0 (by kernel_rfl)).trans rfl
                go_simp
                exact hK _ _ (FVer.val (by decide) rfl) (hJ.up (by decide) (Below.refl _ _)) ⟨Only.of_below (Below.refl _ _), fun _ => Below.refl _ _⟩
              · have e4 := (hc 4 (by kernel_rfl)).trans rfl
                go_simp
                exact hK _ _ (FVer.val (by decide) rfl) (hJ.up (by decide) (Below.refl _ _)) ⟨Only.of_below (Below.refl _ _), fun _ => Below.refl _ _⟩
              · have e8 := (hc 8 (by kernel_rfl)).trans rfl
                go_simp
                exact hK _ _ (FVer.val (by decide) rfl) (hJ.up (by decide) (Below.refl _ _)) ⟨Only.of_below (Below.refl _ _), fun _ => Below.refl _ _⟩
              · have e41 : a.tmps.getD 41 undef = .slice (some ⟨b7, off7, none⟩) all.length c1 := (hd 5 41 (by kernel_rfl)).get (by decide)
                have e42 : a.tmps.getD 42 undef = .int .i64 (k : Int) := (hd 6 42 (by kernel_rfl)).get (by decide)
                have s2 : k < all.length := hlt
                go_simp
                exact hK _ _ (FVer.val (by decide) rfl) (hJ.up (by decide) (Below.refl _ _)) ⟨Only.of_below (Below.refl _ _), fun _ => Below.refl _ _⟩
              · have e43 : a.tmps.getD 43 undef = .pointer (some ⟨b7, off7 + k, none⟩) := (hd 7 43 (by kernel_rfl)).get (by decide)
                have c9 := HX7.out wa hJ.only
                go_simp
                exact hK _ _ (FVer.val (by decide) rfl) (hJ.up (by decide) (Below.refl _ _)) ⟨Only.of_below (Below.refl _ _), fun _ => Below.refl _ _⟩
              · have e40 : a.tmps.getD 40 undef = .slice A0 xs.length c0 := (hd 4 40 (by kernel_rfl)).get (by decide)
                have e44 : a.tmps.getD 44 undef = .slice A7 os.length c7 := (hd 8 44 (by kernel_rfl)).get (by decide)
                go_simp
                refine (HEd.out wa hJ.only).mono ?_
                rintro e w9 ⟨v9, rfl, hO9, hb9⟩
                obtain ⟨A9, d9, rfl, h91, h92, h93⟩ := hO9
                exact hK _ _ (FVer.iff0.2 ⟨A9, d9, rfl, h93.mono (fun b h => ⟨Nat.le_trans hz9 h.1, h.2⟩) (fun _ _ => rfl)⟩) (hJ.up (by decide) hb9) ⟨Only.of_below hb9, fun _ => hb9⟩
              · have e39 : a.tmps.getD 39 undef = .int .i64 (xs.length : Int) := (hd 3 39 (by kernel_rfl)).get (by decide)
                obtain ⟨A9, d9, f9, hR9⟩ := FVer.iff0.1 (hd 9 45 (by kernel_rfl))
                have e9 : a.tmps.getD 45 undef = .slice A9 es.length d9 := f9
                clear f9
                rw [Array.getD_eq_getD_getElem?] at e9
                go_simp
                refine (HCy.out A9 d9 wa (hR9.mono (fun b h => h.2) (fun _ _ => rfl))).mono ?_
                rintro e w9 ⟨v9, rfl, hO9, hb9⟩
                obtain ⟨g0, hG9, _⟩ := hO9.hold
                have hH0 := hG9.mono (w' := w9) (S2 := fun b => w5.heap.size ≤ b ∧ Old w9 b) (fun b h => ⟨Nat.le_trans hz9 h.1, h.2⟩) (fun _ _ => rfl)
                obtain ⟨g9, hg9, hH9⟩ := hH0.ge (lo := w5.heap.size) (fun b h => h.1)
                exact hK _ _ (FVer.iff1.2 ⟨g9, hg9, hH9⟩) (hJ.up (by decide) hb9) ⟨Only.of_below hb9, fun _ => hb9⟩
              · obtain ⟨g9, hg9, hH9⟩ := FVer.iff1.1 (hd 10 46 (by kernel_rfl))
                have hH0 := hH9
                obtain ⟨A9, d9, f9, h91, h92, h93⟩ := hH9
                have e9 : a.tmps.getD 46 undef = .slice A9 cy.length d9 := f9
                rw [f9] at hH0
                clear f9 h93
                rw [Array.getD_eq_getD_getElem?] at e9
                go_simp
                exact hK _ _ (FVer.iff2.2 ⟨wa.heap.size, g9, hg9, rfl, hz9, by simp [Old], (row_one (T := TB) 27 (cs := [_]) ⟨_, rfl, hH0⟩ (fun b hb => hb.2)).stay (fun b hb => ⟨hb.1, Nat.lt_of_lt_of_le hb.2 (by simp)⟩) (fun _ _ => rfl) rfl⟩) (hJ.up (by decide) ((Below.refl _ wa).alloc (Nat.le_refl _) _)) ⟨Only.of_below ((Below.refl _ wa).alloc (Nat.le_refl _) _), fun _ => (Below.refl _ wa).alloc (Nat.le_refl _) _⟩
              · have e37 : a.tmps.getD 37 undef = cv := (hd 1 37 (by kernel_rfl)).get (by decide)
                have hO := HOc.out.mono (w' := wa) (S2 := fun b => w3.heap.size ≤ b ∧ b < w5.heap.size) (fun b h => h) (fun b h => (hJ.fresh hL).block b h.2)
                obtain ⟨p9, g9, hg9, f9, hp9, hpo9, hy9⟩ := FVer.iff2.1 (hd 11 47 (by kernel_rfl))
                refine wp_app TB (.tmp 37) (.tmp 47) 31 rfl 27 i1 _ 24 Tryz.underlying31 hi1 hz01 hz11 hz21 rfl (by decide) (fun b => w3.heap.size ≤ b ∧ b < w5.heap.size) (fun b => w5.heap.size ≤ b ∧ Old wa b) (fun b => w3.heap.size ≤ b) ps [(cy, g9)] cv e37 hO _ 1 1 f9 rfl hy9 (by have := HPn.out; simp only [maxLen, List.length_singleton]; omega) (by have := HPn.out; simp only [List.length_singleton]; omega) (fun b h => Nat.lt_of_lt_of_le h.2 hz9) (fun b hb => ⟨hb.2, fun e => by have := (HOc.out.owned b e).2; have := hb.1; omega⟩) (fun b h => h.1) (fun b hb => Nat.le_trans HZr.out hb.1) (Nat.le_trans HZr.out hz9) ?_
                intro v9 w9 hO9 hg_
                have hk9 : Only (fun b => w3.heap.size ≤ b ∧ b < w5.heap.size) wa w9 := Only.of_grown hg_ (fun b e => HOc.out.owned b e)
                exact hK _ _ (FVer.iff3.2 ⟨g9, hg9, hO9⟩) (hJ.app (hk9.mono fun b h => h.1)) ⟨hk9.mono fun b h => h.2, fun e => absurd rfl e⟩
              · have e7 := (hc 7 (by kernel_rfl)).trans rfl
                go_simp
                exact hK _ _ (FVer.val (by decide) rfl) (hJ.up (by decide) (Below.refl _ _)) ⟨Only.of_below (Below.refl _ _), fun _ => Below.refl _ _⟩
            · intro vs wz L9 hL hJ hF
              obtain ⟨g9, hg9, hO9⟩ := FVer.iff3.1 (hF 12 (by decide))
              have f10 : vs 13 = .pointer (some ⟨w4.heap.size, 2, none⟩) := (hF 13 (by decide)).get (by decide)
              obtain ⟨A9, d9, f9, h91, h92, _⟩ := hO9.sl
              rw [f9] at hO9
              have HF2 := hide (far_snoc (p := (cy, g9)) HFr.out (own_old HOc.out) hg9)
              have HP9 := hide (show (ps ++ [(cy, g9)]).map Prod.fst = cycK xs all (k + 1) by rw [List.map_append, HP.out, HCs.out]; rfl)
              have HW9 := hide hJ.only
              have hBz := HBk5.out.of (hJ.only.block w4.heap.size hgr5 (by omega))
              simp only [putD, Act.put, List.setIfInBounds_toArray, List.set_cons_zero, List.set_cons_succ, List.drop_succ_cons, List.drop_zero]
              rw [f9, f10]
              generalize (ps ++ [(cy, g9)]).length = n9 at f9 hO9 h91 ⊢
              have x2 := hBz.cell 2
              have fz := hBz.frozen 2
              simp only [List.getElem?_toArray, List.getElem?_cons_zero, List.getElem?_cons_succ] at x2
              have HO5 := hide (hO9.mono (w' := wz.setCell ⟨w4.heap.size, 2, none⟩ (.slice A9 n9 d9)) (S2 := fun b => w3.heap.size ≤ b ∧ Old (wz.setCell ⟨w4.heap.size, 2, none⟩ (.slice A9 n9 d9)) b) (fun b h => ⟨h.1, by have := h.2; simpa [Old] using this⟩) (fun b h => Below.heap_setCell _ _ _ _ (by have := h.1; simp; omega)))
              have HK5 := hide (show Blk (wz.setCell ⟨w4.heap.size, 2, none⟩ (.slice A9 n9 d9)) w4.heap.size 35 #[.bool false, .slice none 0 0, .slice A9 n9 d9] from hBz.set_ 2 _)
              have HN5 := hide ((HOn5.out.trans (HW9.out.mono fun b h => .inl h)).setCell (p := ⟨w4.heap.size, 2, none⟩) (.inr rfl) (.slice A9 n9 d9))
              clear hF hJ f9 f10 hO9 hBz
              go_wp2_with fail
              go_roundw
              case rel => exact ⟨k + 1, _, ps ++ [(cy, g9)], by omega, by go_num, HP9.out, HF2.out, HO5.out, HK5.out, HN5.out⟩
              case measure => simp [intOf]; omega
          · obtain rfl : k = all.length := by omega
            have HPe := hide (HP.out.trans HCa.out)
            have hki : ¬ (all.length : Int) < (all.length : Int) := by omega
            have hX4 := HXc.out wr (HW2.out.trans (HP2.out.mono HW2.out.size))
            obtain ⟨g9, hH9, _⟩ := HO1.out.hold
            have HH9 := hide hH9
            obtain ⟨A9, d9, rfl, _, _, _⟩ := hH9
            have e0 := hX4.cell 0; have e1 := hX4.cell 1; have e2 := hX4.cell 2; have f0 := hX4.frozen 0; have f1 := hX4.frozen 1; have f2 := hX4.frozen 2; have d0 := HBk.out.cell 0; have d1 := HBk.out.cell 1; have d2 := HBk.out.cell 2
            simp only [List.getElem?_toArray, List.getElem?_cons_zero, List.getElem?_cons_succ] at e0 e1 e2 d0 d1 d2
            clear hX4
            have hzz : w.heap.size < wr.heap.size := by omega
            have hw3 : w.heap.size < w3.heap.size := by omega
            go_wp2_with fail
            refine bodyPost_ret (v := .tuple #[.agg #[.bool false, .slice none 0 0, .slice A9 ps.length d9], .bool true]) (by simp [results, Tryz.results18, go_sem, e0, e1, e2]) rfl ⟨_, _, by rw [verdD, HR.out]; rfl, ?_, ?_, ?_⟩
            · rw [verdD, HR.out]; exact slv_nil
            · rw [verdD, HR.out]
              refine HoldS.sl ⟨ps, g9, HPe.out, HH9.out.mono (fun b h => ⟨by have := h.1; omega, by have := h.2; simpa [Old] using this⟩) (fun b h => ?_), HFr.out⟩
              have h1 := h.1
              repeat (first | rw [Below.heap_setCell _ _ _ _ (by simp; try omega)])
            · repeat (first | refine Below.setCell ?_ (by simp; try omega) _ | exact HPw.out)
  · have HR := hide (verdO_no hne)
    have hzb : (((allO xs).length : Int) == 0) = true := by rw [beq_iff_eq]; omega
    clear hne
    go_wp2_with (go_at_call 24; refine HAo.out.mono ?_; rintro e w2 ⟨v2, rfl, hS1, hb2⟩; obtain ⟨A1, c1, rfl, h11, h12, h13⟩ := hS1; have hX1 := HXc.out w2 (HW1.out.trans (hb2.mono HW1.out.size)); have HB2 := hide (HB1.out.trans (hb2.mono HB1.out.size)); have e0 := hX1.cell 0; have e1 := hX1.cell 1; have e2 := hX1.cell 2; have f0 := hX1.frozen 0; have f1 := hX1.frozen 1; have f2 := hX1.frozen 2; simp only [List.getElem?_toArray, List.getElem?_cons_zero, List.getElem?_cons_succ] at e0 e1 e2; have HZ1 := hide HW1.out.size; have HZ2 := hide hb2.size; clear hX1 hb2 h13)
    have hzz : w.heap.size < w2.heap.size := by have := HZ1.out; have := HZ2.out; omega
    refine bodyPost_ret (v := .tuple #[.agg #[.bool false, .slice none 0 0, .slice none 0 0], .bool false]) (by simp [results, Tryz.results18, go_sem, e0, e1, e2]) rfl ⟨_, _, by rw [verdD, HR.out]; rfl, ?_, ?_, ?_⟩
    · rw [verdD, HR.out]; exact slv_nil
    · rw [verdD, HR.out]; exact slv_nil
    · repeat (first | refine Below.setCell ?_ (by simp; try omega) _ | exact HB2.out)
end Go.Proofs.YtjiobgfaohldhaaGreatDoor
namespace Go.Proofs.YtjiobgfaohldhaaGreatDoor
open Go.RowKit
set_option linter.unusedVariables false
set_option linter.unusedSimpArgs false

def rightB (h : List Txn) (cs : List (List Int)) : Bool := if readsB h then cs.length == (allO h).length && cycsB h (allO h) cs (allO h).length else cs.isEmpty
theorem cycsB_succ {h : List Txn} {all : List (List (List Int))} {cs : List (List Int)} {k : Nat} (h1 : k < all.length) (h2 : k < cs.length) (hk : cycsB h all cs k = true) : cycsB h all cs (k + 1) = cycV (h.length : Int) (edgR h all[k]) cs[k] := by
  unfold cycsB
  rw [range_all_succ hk, List.getD_eq_getElem?_getD, List.getD_eq_getElem?_getD, List.getElem?_eq_getElem h1, List.getElem?_eq_getElem h2]; rfl
theorem cycsB_stop {h : List Txn} {all : List (List (List Int))} {cs : List (List Int)} {k : Nat} (h1 : k < all.length) (h2 : k < cs.length) (hc : cycV (h.length : Int) (edgR h all[k]) cs[k] = false) : cycsB h all cs all.length = false :=
  range_all_stop h1 (by rw [List.getD_eq_getElem?_getD, List.getD_eq_getElem?_getD, List.getElem?_eq_getElem h1, List.getElem?_eq_getElem h2]; exact hc)
set_option maxRecDepth 10000 in
set_option maxHeartbeats 4000000 in
theorem implVRight (xs : List Txn) (g : Bool) (vo : Value) (cs : List (List Int)) (A B C : Option Addr) (c d e0 : Nat) (w : World) (hm : xs.length ≤ maxLen) (hlc : cs.length ≤ 1048576) (hnc : ∀ x ∈ cs, x.length ≤ 1048576) (hA : Row tTxn w (Old w) A xs) (hB : Row (tSlice (tSlice tInt)) w (Old w) B (allO xs)) (hC : Row (tSlice tInt) w (Old w) C cs) :
    Calls Tryz.prog 38 #[.agg #[.bool g, vo, .slice C cs.length e0], .slice A xs.length c, .slice B (allO xs).length d] w fun e w' => e = .returned (.bool (rightB xs cs)) ∧ Below w.heap.size w w' := by
  have HB0 := hide ((Below.refl _ w).alloc (Nat.le_refl _) (.cells #[.bool g, vo, .slice C cs.length e0] 35))
  have HX0 := hide (Blk.new w 35 #[.bool g, vo, .slice C cs.length e0])
  have HRr := hide (implReadsRight xs A c _ hm (hA.old HB0.out))
  have hz0 : w.heap.size < (w.alloc (.cells #[.bool g, vo, .slice C cs.length e0] 35)).heap.size := by simp
  have hl2 := allO_len xs
  have HBd := hide (show ∀ x ∈ allO xs, x.length ≤ 3 ∧ ∀ o ∈ x, o.length ≤ 6 from fun x hx => by
    have hne : allO xs ≠ [] := fun e => by rw [e] at hx; cases hx
    have hv := (allO_ok.1 hne).1
    rw [allO_eq hne] at hx
    exact ⟨Nat.le_of_eq (partO_mlen xs 3 x hx), partO_ilen hv 3 x hx⟩)
  have HR0 := hide (show rightB xs cs = (if readsB xs then cs.length == (allO xs).length && cycsB xs (allO xs) cs (allO xs).length else cs.isEmpty) from rfl)
  have HA := hide hA; have HB := hide hB; have HC := hide hC; have HN := hide hnc
  have hqa : (allO xs).length ≤ 9223372036854775807 := by omega
  have hqc : cs.length ≤ 9223372036854775807 := by omega
  have hqx : xs.length ≤ 9223372036854775807 := by simpa [maxLen] using hm
  clear hA hB hC hnc
  generalize allO xs = all at HR0 HB HBd hl2 hqa
  go_enter Tryz.func38, Tryz.ntmps38
  go_upto_region 1 with fail
  generalize w.alloc _ = W at HB0 HX0 HRr hz0 ⊢
  have HXc := hide (fun (W2 : World) (hb : Below W.heap.size W W2) => (HX0.out.below hb HX0.out.lt).cell 2)
  simp only [List.getElem?_toArray, List.getElem?_cons_zero, List.getElem?_cons_succ] at HXc
  cases hrb : readsB xs with
  | false =>
    have HR := hide (show rightB xs cs = decide (cs.length = 0) by rw [HR0.out, hrb]; cases cs <;> simp)
    rw [hrb] at HRr
    clear hrb
    go_upto_region 2 with (go_at_call 43; refine HRr.out.mono ?_; rintro e w1 ⟨rfl, hb1⟩; have HB1 := hide (HB0.out.trans (hb1.mono HB0.out.size)); have x2 := HXc.out w1 hb1; clear hb1)
    go_wp2_with fail
    go_ret
    exact ⟨ret_bool (by rw [HR.out, Bool.eq_iff_iff, beq_iff_eq, decide_eq_true_iff]; omega), HB1.out⟩
  | true =>
    have HR := hide (show rightB xs cs = (decide (cs.length = all.length) && cycsB xs all cs all.length) by rw [HR0.out, hrb]; simp [Bool.beq_eq_decide_eq])
    rw [hrb] at HRr
    clear hrb
    by_cases hln : cs.length = all.length
    · have hlb : ((cs.length : Int) == (all.length : Int)) = true := by rw [beq_iff_eq]; omega
      have hlb2 : (cs.length == all.length) = true := by rw [beq_iff_eq]; exact hln
      have hlb3 : ((cs.length : Int) != (all.length : Int)) = false := by rw [bne_eq_false_iff_eq]; omega
      have HRt := hide (show rightB xs cs = cycsB xs all cs all.length by rw [HR.out, decide_eq_true hln]; rfl)
      have HLn := hide hln
      clear hln
      go_upto_region 3 with (go_at_call 43; refine HRr.out.mono ?_; rintro e w1 ⟨rfl, hb1⟩; have HB1 := hide (HB0.out.trans (hb1.mono HB0.out.size)); have HW1 := hide hb1; have x2 := HXc.out w1 hb1; clear hb1)
      go_upto_region 6 with fail
      clear x2
      go_loopw [7, 8, 24] (fun _ _ i wr => ∃ k : Nat, k ≤ all.length ∧ i = .int .i64 k ∧ Hid (cycsB xs all cs k = true) ∧ Hid (Below w1.heap.size w1 wr)) (fun _ _ i _ => all.length - (intOf i).toNat)
      case atStart => exact ⟨0, Nat.zero_le _, rfl, rfl, Below.refl _ _⟩
      case round =>
        obtain ⟨k, hk, rfl, hI, hb⟩ := hrel
        have HI := hide hI.out; have HBk := hide hb.out
        clear hI hb
        have HB2 := hide (HB1.out.trans (HBk.out.mono HB1.out.size))
        by_cases hlt : k < all.length
        · have hki : (k : Int) < (all.length : Int) := by omega
          have hkc : k < cs.length := by rw [HLn.out]; exact hlt
          obtain ⟨b7, off7, A7, c7, rfl, hb7, g0, g1, g2, hR7⟩ := at_SliceG HB.out hlt
          obtain ⟨b8, off8, A8, c8, rfl, hb8, i0, i1, i2, hR8⟩ := at_SliceG HC.out hkc
          replace g0 := (HB2.out.cell (p := ⟨b7, off7 + k, none⟩) hb7).trans g0
          have HBw := hide (fun (W2 : World) (hb : Below wr.heap.size wr W2) => HB2.out.trans (hb.mono HB2.out.size))
          have HX2 := hide (fun (W2 : World) (hb : Below wr.heap.size wr W2) => HXc.out W2 ((HW1.out.trans (HBk.out.mono HW1.out.size)).trans (hb.mono (Nat.le_trans HW1.out.size HBk.out.size))))
          have HC8 := hide (fun (W2 : World) (hb : Below wr.heap.size wr W2) => ((HBw.out W2 hb).cell (p := ⟨b8, off8 + k, none⟩) hb8).trans i0)
          have HR8 := hide (fun (W2 : World) (hb : Below wr.heap.size wr W2) => hR8.old (HBw.out W2 hb))
          have hbd := HBd.out all[k] (List.getElem_mem hlt)
          have HEd := hide (fun (W2 : World) (hb : Below wr.heap.size wr W2) => implEdgesOf xs all[k] A A7 c c7 W2 hm (by omega) (fun o ho => by have := hbd.2 o ho; omega) (HA.out.old (HBw.out W2 hb)) (hR7.old (HBw.out W2 hb)))
          have hel := edgR_len xs all[k]
          have HSu := hide (cycsB_succ hlt hkc HI.out)
          have HSt := hide (fun hc => cycsB_stop (h := xs) (all := all) (cs := cs) hlt hkc hc)
          have hcy := HN.out _ (List.getElem_mem hkc)
          clear hR7 hR8 i0 hbd
          generalize edgR xs all[k] = es at HEd hel HSu HSt
          generalize all[k] = os at g0 g1 HEd
          generalize cs[k] = cy at i1 HC8 HR8 HSu HSt hcy
          go_upto_region 8 with fail
          refine wp_region_facts 10 (fun _ W => Below wr.heap.size wr W) (FRow tEdge es 4 (fun q9 : Nat => match q9 with | 0 => .slice A xs.length c | 1 => .int .i64 (xs.length : Int) | 2 => .slice A xs.length c | 3 => .slice A7 os.length c7 | 4 => undef | 5 => .pointer (some ⟨w.heap.size, 2, none⟩) | 6 => .slice (some ⟨b8, off8, none⟩) cs.length e0 | 7 => .int .i64 (k : Int) | 8 => .pointer (some ⟨b8, off8 + k, none⟩) | 9 => .slice A8 cy.length c8 | _ => undef)) (fun _ a b => Below a.heap.size a b) [some 29, some 30, some 31, some 32, some 33, some 34, some 35, some 36, some 37, some 38] (by kernel_rfl) (by kernel_rfl) (by kernel_rfl) (by kernel_rfl) ?_ ?_ ?_ ?_
          · exact (Below.refl _ wr).drew
          · intro i k9 v wa wb _ _ _ hF hE; exact hF.ev hE
          · intro i o hi ho a wa L9 hL hJ hc hd K hK
            have hi' : i = 0 ∨ i = 1 ∨ i = 2 ∨ i = 3 ∨ i = 4 ∨ i = 5 ∨ i = 6 ∨ i = 7 ∨ i = 8 ∨ i = 9 := by omega
            clear hi
            rcases hi' with rfl | rfl | rfl | rfl | rfl | rfl | rfl | rfl | rfl | rfl
            all_goals
              simp only [List.getElem?_toArray, List.getElem?_cons_zero, List.getElem?_cons_succ, Option.some.injEq] at ho
              subst ho
              simp only [reduceCtorEq, if_false] at hK
            · have e1 := (hc 1 (by kernel_rfl)).trans rfl
              go_simp
              exact hK _ _ (FRow.val (by decide) rfl) hJ (Below.refl _ _)
            · have e29 : a.tmps.getD 29 undef = .slice A xs.length c := (hd 0 29 (by kernel_rfl)).get (by decide)
              go_simp
              exact hK _ _ (FRow.val (by decide) rfl) hJ (Below.refl _ _)
            · have e1 := (hc 1 (by kernel_rfl)).trans rfl
              go_simp
              exact hK _ _ (FRow.val (by decide) rfl) hJ (Below.refl _ _)
            · have e8 := (hc 8 (by kernel_rfl)).trans rfl
              go_simp
              exact hK _ _ (FRow.val (by decide) rfl) hJ (Below.refl _ _)
            · have e31 : a.tmps.getD 31 undef = .slice A xs.length c := (hd 2 31 (by kernel_rfl)).get (by decide)
              have e32 : a.tmps.getD 32 undef = .slice A7 os.length c7 := (hd 3 32 (by kernel_rfl)).get (by decide)
              go_simp
              refine (HEd.out wa hJ).mono ?_
              rintro e w9 ⟨v9, rfl, hO9, hb9⟩
              obtain ⟨A9, d9, rfl, h91, h92, h93⟩ := hO9
              exact hK _ _ (FRow.mk (h93.mono (fun b h => h.2) (fun _ _ => rfl))) (hJ.trans (hb9.mono hJ.size)) hb9
            · have e3 := (hc 3 (by kernel_rfl)).trans rfl
              go_simp
              exact hK _ _ (FRow.val (by decide) rfl) hJ (Below.refl _ _)
            · have e34 : a.tmps.getD 34 undef = .pointer (some ⟨w.heap.size, 2, none⟩) := (hd 5 34 (by kernel_rfl)).get (by decide)
              have c9 := HX2.out wa hJ
              go_simp
              exact hK _ _ (FRow.val (by decide) rfl) hJ (Below.refl _ _)
            · have e7 := (hc 7 (by kernel_rfl)).trans rfl
              go_simp
              exact hK _ _ (FRow.val (by decide) rfl) hJ (Below.refl _ _)
            · have e35 : a.tmps.getD 35 undef = .slice (some ⟨b8, off8, none⟩) cs.length e0 := (hd 6 35 (by kernel_rfl)).get (by decide)
              have e36 : a.tmps.getD 36 undef = .int .i64 (k : Int) := (hd 7 36 (by kernel_rfl)).get (by decide)
              have s2 : k < cs.length := hkc
              go_simp
              exact hK _ _ (FRow.val (by decide) rfl) hJ (Below.refl _ _)
            · have e37 : a.tmps.getD 37 undef = .pointer (some ⟨b8, off8 + k, none⟩) := (hd 8 37 (by kernel_rfl)).get (by decide)
              have c9 := HC8.out wa hJ
              go_simp
              exact hK _ _ (FRow.val (by decide) rfl) hJ (Below.refl _ _)
          · intro vs wz L9 hL hJ hF
            obtain ⟨A9, d9, f4, hR9⟩ := (hF 4 (by decide)).row
            have f1 : vs 1 = .int .i64 (xs.length : Int) := (hF 1 (by decide)).get (by decide)
            have f9 : vs 9 = .slice A8 cy.length c8 := (hF 9 (by decide)).get (by decide)
            simp only [putD, Act.put, List.setIfInBounds_toArray, List.set_cons_zero, List.set_cons_succ, List.drop_succ_cons, List.drop_zero]
            rw [f1, f4, f9]
            clear hF f1 f4 f9
            have HCr := hide (implCycleRight (xs.length : Int) es cy A9 A8 d9 c8 wz (by simp only [maxLen]; omega) (by simp only [maxLen]; omega) hR9 (HR8.out wz hJ))
            have HJ := hide (HBk.out.trans (hJ.mono HBk.out.size))
            clear hJ hR9
            cases hcv : cycV (xs.length : Int) es cy with
            | true =>
              have HI2 := hide (HSu.out.trans hcv)
              rw [hcv] at HCr
              clear hcv
              go_wp2_with (go_at_call 80; refine HCr.out.mono ?_; rintro e w5 ⟨rfl, hb5⟩; have HB5 := hide (HJ.out.trans (hb5.mono HJ.out.size)); clear hb5)
              go_roundw
              case rel => exact ⟨k + 1, by omega, by go_num, HI2.out, HB5.out⟩
              case measure => simp [intOf]; omega
            | false =>
              have HRf := hide (show rightB xs cs = false by rw [HRt.out]; exact HSt.out hcv)
              rw [hcv] at HCr
              clear hcv
              go_wp2_with (go_at_call 80; refine HCr.out.mono ?_; rintro e w5 ⟨rfl, hb5⟩; have HB5 := hide (HB1.out.trans ((HJ.out.trans (hb5.mono HJ.out.size)).mono HB1.out.size)); clear hb5)
              go_ret
              exact ⟨ret_bool HRf.out.symm, HB5.out⟩
        · obtain rfl : k = all.length := by omega
          go_wp2_with fail
          go_ret
          exact ⟨ret_bool (by rw [HRt.out, HI.out]), HB2.out⟩
    · have hlb : ((cs.length : Int) == (all.length : Int)) = false := by rw [beq_eq_false_iff_ne]; omega
      have HRf := hide (show rightB xs cs = false by rw [HR.out, decide_eq_false hln]; rfl)
      go_upto_region 3 with (go_at_call 43; refine HRr.out.mono ?_; rintro e w1 ⟨rfl, hb1⟩; have HB1 := hide (HB0.out.trans (hb1.mono HB0.out.size)); have x2 := HXc.out w1 hb1; clear hb1)
      go_wp2_with fail
      go_ret
      exact ⟨ret_bool HRf.out.symm, HB1.out⟩
theorem verdB_no {h : List Txn} {v : Verd} (he : ¬ 0 < (allO h).length) : verdB h v = false := by
  have : allO h = [] := List.eq_nil_of_length_eq_zero (by omega)
  unfold verdB; rw [this]; rfl
theorem verdB_yes {h : List Txn} {v : Verd} (he : 0 < (allO h).length) : verdB h v = (if v.Good then serB h v.Order && v.Cycles.isEmpty else (v.Order.isEmpty && rightB h v.Cycles)) := by
  have : (allO h).isEmpty = false := by cases hx : allO h with | nil => rw [hx] at he; simp at he | cons _ _ => rfl
  unfold verdB rightB; rw [this]; rfl
set_option maxRecDepth 10000 in
set_option maxHeartbeats 4000000 in
theorem implVerdictRight (xs : List Txn) (g : Bool) (o : List Int) (cs : List (List Int)) (A B C : Option Addr) (c d e0 : Nat) (w : World) (hm : xs.length ≤ maxLen) (hmo : o.length ≤ 1048576) (hlc : cs.length ≤ 1048576) (hnc : ∀ x ∈ cs, x.length ≤ 1048576) (hA : Row tTxn w (Old w) A xs) (hB : Row tInt w (Old w) B o) (hC : Row (tSlice tInt) w (Old w) C cs) :
    Calls Tryz.prog 14 #[.slice A xs.length c, .agg #[.bool g, .slice B o.length d, .slice C cs.length e0]] w fun e w' => e = .returned (.bool (verdB xs ⟨g, o, cs⟩)) ∧ Below w.heap.size w w' := by
  have HB0 := hide ((Below.refl _ w).alloc (Nat.le_refl _) (.cells #[.bool g, .slice B o.length d, .slice C cs.length e0] 35))
  have HX0 := hide (Blk.new w 35 #[.bool g, .slice B o.length d, .slice C cs.length e0])
  have HOi := hide (implOrdersIn xs A c _ hm (hA.old HB0.out))
  have hz0 : w.heap.size < (w.alloc (.cells #[.bool g, .slice B o.length d, .slice C cs.length e0] 35)).heap.size := by simp
  have HSr := hide (fun (W : World) (hb : Below w.heap.size w W) => implSerialRight xs o A B c d W hm hmo (hA.old hb) (hB.old hb))
  have HVr := hide (fun (Ba : Option Addr) (ca : Nat) (W : World) (hb : Below w.heap.size w W) (hR : Row (tSlice (tSlice tInt)) W (Old W) Ba (allO xs)) => implVRight xs g (.slice B o.length d) cs A Ba C c ca e0 W hm hlc hnc (hA.old hb) hR (hC.old hb))
  have hqo : o.length ≤ 9223372036854775807 := by omega
  have hqc : cs.length ≤ 9223372036854775807 := by omega
  clear hA hB hC hnc
  go_enter Tryz.func14, Tryz.ntmps14
  go_upto_region 1 with fail
  generalize w.alloc _ = W at HB0 HX0 HOi hz0 ⊢
  have HXc := hide (fun (W2 : World) (hb : Below W.heap.size W W2) => And.intro ((HX0.out.below hb HX0.out.lt).cell 0) (And.intro ((HX0.out.below hb HX0.out.lt).cell 1) ((HX0.out.below hb HX0.out.lt).cell 2)))
  simp only [List.getElem?_toArray, List.getElem?_cons_zero, List.getElem?_cons_succ] at HXc
  by_cases hne : 0 < (allO xs).length
  · have HR := hide (verdB_yes (v := ⟨g, o, cs⟩) hne)
    rw [decide_eq_true hne] at HOi
    clear hne
    go_upto_region 4 with (go_at_call 36; refine HOi.out.mono ?_; rintro e w1 ⟨v1, rfl, hS1, hb1⟩; obtain ⟨A1, c1, rfl, h11, h12, h13⟩ := hS1; have HR1 := hide (h13.mono (w' := w1) (S' := Old w1) (fun b h => h.2) (fun _ _ => rfl)); have HB1 := hide (HB0.out.trans (hb1.mono HB0.out.size)); have HW1 := hide hb1; clear hb1 h13)
    obtain ⟨x0, x1, x2⟩ := HXc.out w1 HW1.out
    cases g with
    | true =>
      have HS1 := hide (HSr.out w1 HB1.out)
      cases hs : serB xs o with
      | true =>
        have HRt := hide (show verdB xs ⟨true, o, cs⟩ = cs.isEmpty by rw [HR.out]; simp [hs])
        rw [hs] at HS1
        clear hs
        have HX2 := hide (fun (W2 : World) (hb : Below w1.heap.size w1 W2) => HXc.out W2 (HW1.out.trans (hb.mono HW1.out.size)))
        go_wp2_with (go_at_call 37; refine HS1.out.mono ?_; rintro e w2 ⟨rfl, hb2⟩; obtain ⟨y0, y1, y2⟩ := HX2.out w2 hb2; have HB2 := hide (HB1.out.trans (hb2.mono HB1.out.size)); clear hb2)
        go_ret
        exact ⟨ret_bool (by rw [HRt.out]; cases cs <;> simp <;> omega), HB2.out⟩
      | false =>
        have HRf := hide (show verdB xs ⟨true, o, cs⟩ = false by rw [HR.out]; simp [hs])
        rw [hs] at HS1
        clear hs
        go_wp2_with (go_at_call 37; refine HS1.out.mono ?_; rintro e w2 ⟨rfl, hb2⟩; have HB2 := hide (HB1.out.trans (hb2.mono HB1.out.size)); clear hb2)
        go_ret
        exact ⟨ret_bool HRf.out.symm, HB2.out⟩
    | false =>
      have HV1 := hide (HVr.out A1 c1 w1 HB1.out HR1.out)
      by_cases hz : o.length = 0
      · have hzb : ((o.length : Int) == 0) = true := by rw [beq_iff_eq]; omega
        have HRt := hide (show verdB xs ⟨false, o, cs⟩ = rightB xs cs by rw [HR.out]; cases o with | nil => simp | cons _ _ => simp at hz)
        clear hz
        go_wp2_with (go_at_call 38; refine HV1.out.mono ?_; rintro e w2 ⟨rfl, hb2⟩; have HB2 := hide (HB1.out.trans (hb2.mono HB1.out.size)); clear hb2)
        go_ret
        exact ⟨ret_bool HRt.out.symm, HB2.out⟩
      · have hzb : ((o.length : Int) == 0) = false := by rw [beq_eq_false_iff_ne]; omega
        have HRf := hide (show verdB xs ⟨false, o, cs⟩ = false by rw [HR.out]; cases o with | nil => simp at hz | cons _ _ => simp)
        clear hz
        go_wp2_with fail
        go_ret
        exact ⟨ret_bool HRf.out.symm, HB1.out⟩
  · have HR := hide (verdB_no (v := ⟨g, o, cs⟩) hne)
    rw [decide_eq_false hne] at HOi
    clear hne
    go_wp2_with (go_at_call 36; refine HOi.out.mono ?_; rintro e w1 ⟨v1, rfl, hS1, hb1⟩; obtain ⟨A1, c1, rfl, h11, h12, h13⟩ := hS1; have HB1 := hide (HB0.out.trans (hb1.mono HB0.out.size)); clear hb1 h13)
    go_ret
    exact ⟨ret_bool HR.out.symm, HB1.out⟩
end Go.Proofs.YtjiobgfaohldhaaGreatDoor
