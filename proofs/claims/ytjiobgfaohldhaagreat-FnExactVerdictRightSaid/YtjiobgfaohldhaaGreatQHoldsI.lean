/- The reference's VerdictOf. Comparing equal data of the laws package answers true. Comparing equal data of the laws package answers true: calls, lists of lists, drafts. The sizes that the laws package counts. Numbers in new memory that can be marked and asked for their marks. -/
import Derived.Test.YtjiobgfaohldhaaGreatQConcat
import Derived.Test.YtjiobgfaohldhaaGreatQAllS
import Derived.Test.YtjiobgfaohldhaaGreatQHBox
import Derived.Test.YtjiobgfaohldhaaGreatQOrders
import Derived.Test.YtjiobgfaohldhaaGreatQAllM
import Derived.Test.YtjiobgfaohldhaaGreatQCycO
import Derived.Test.YtjiobgfaohldhaaGreatProg
import Derived.Test.YtjiobgfaohldhaaGreatQToA
import Derived.Test.YtjiobgfaohldhaaGreatQAllF
namespace Go.Proofs.YtjiobgfaohldhaaGreat
open Go.RowKit
set_option linter.unusedVariables false
set_option linter.unusedSimpArgs false

/-- What the reference's VerdictOf answers, in memory of its own. -/
def VerdPostS (xs : List Txn) (w : World) (e : Ending) (w' : World) : Prop :=
  ∃ vo vc, e = .returned (.tuple #[.agg #[.bool (verdD xs).Good, vo, vc], .bool (verdO xs).isSome]) ∧ Sl tInt w' (New w w') (verdD xs).Order vo ∧ Sl (tSlice tInt) w' (New w w') (verdD xs).Cycles vc ∧ Below w.heap.size w w'
theorem slv_nil {α : Type} {T : Ty α} {w : World} {S : Nat → Prop} : Sl T w S ([] : List α) (.slice none 0 0) := ⟨none, 0, rfl, Nat.le_refl _, by simp [maxLen], Row.nil⟩
theorem allO_hist2 {h : List Txn} (hne : 0 < (allO h).length) : histV h = true := (allO_ok.1 (fun e => by rw [e] at hne; exact absurd hne (by simp))).1
theorem allO_bd4 (h : List Txn) : ∀ x ∈ allO h, x.length ≤ 3 ∧ ∀ o ∈ x, o.length ≤ 6 := fun x hx => by
  have hne : allO h ≠ [] := fun e => by rw [e] at hx; cases hx
  have hv := (allO_ok.1 hne).1
  rw [allO_eq hne] at hx
  exact ⟨Nat.le_of_eq (partO_mlen h 3 x hx), partO_ilen hv 3 x hx⟩
set_option maxRecDepth 10000 in
set_option maxHeartbeats 4000000 in
theorem specVerdictOf (xs : List Txn) (A : Option Addr) (c : Nat) (w : World) (hm : xs.length ≤ 1048576) (hn : ∀ x ∈ xs, x.Ops.length ≤ 1048576) (ht : opsN xs ≤ 1048576) (hA : Row tTxn w (Old w) A xs) :
    Calls Tryz.prog 13 #[.slice A xs.length c] w (VerdPostS xs w) := by
  obtain ⟨i1, hi1, hz01, hz11, hz21⟩ := info_parts infoIntS_
  have HB0 := hide ((Below.refl _ w).alloc (Nat.le_refl _) (.cells #[.bool false, .slice none 0 0, .slice none 0 0] 32))
  have HX0 := hide (Blk.new w 32 #[.bool false, .slice none 0 0, .slice none 0 0])
  have HOw := hide (ownTxnList xs A c _ hm hn (hA.old HB0.out))
  have hz0 : w.heap.size < (w.alloc (.cells #[.bool false, .slice none 0 0, .slice none 0 0] 32)).heap.size := by simp
  have hl2 := allO_len xs
  have HBd := hide (allO_bd4 xs)
  have HN := hide hn; have HT := hide ht
  have hqx : xs.length ≤ 9223372036854775807 := by omega
  clear hA hn ht
  go_enter Tryz.func13, Tryz.ntmps13
  go_upto_region 1 with fail
  generalize w.alloc _ = W at HB0 HX0 HOw hz0 ⊢
  have HXc := hide (fun (W2 : World) (hb : Below W.heap.size W W2) => HX0.out.below hb HX0.out.lt)
  go_upto_region 2 with (go_at_call 35; refine HOw.out.mono ?_; rintro e w1 ⟨v1, rfl, hO1, hb1⟩; obtain ⟨A0, c0, rfl, h01, h02, h13⟩ := hO1.weakTxn.sl; have HA1 := hide (h13.mono (w' := w1) (S' := Old w1) (fun b h => h.2) (fun _ _ => rfl)); have HB1 := hide (HB0.out.trans (hb1.mono HB0.out.size)); have HW1 := hide hb1; clear hb1 h13 hO1)
  have HAo := hide (specAllOrders xs A0 c0 w1 hm HN.out HT.out HA1.out)
  by_cases hne : 0 < (allO xs).length
  · have HV := hide (allO_hist2 hne)
    have HNe := hide hne
    have hzb : (((allO xs).length : Int) == 0) = false := by rw [beq_eq_false_iff_ne]; omega
    go_upto_region 5 with (go_at_call 21; refine HAo.out.mono ?_; rintro e w2 ⟨v2, rfl, hS1, hb2⟩; obtain ⟨A1, c1, rfl, h11, h12, h13⟩ := hS1; have HR2 := hide (h13.mono (w' := w2) (S' := Old w2) (fun b h => h.2) (fun _ _ => rfl)); have HV2 := hide hb2; clear hb2 h13)
    have HW2 := hide (HW1.out.trans (HV2.out.mono HW1.out.size))
    have HB2 := hide (HB1.out.trans (HV2.out.mono HB1.out.size))
    have HFs := hide (specFindSerial xs A0 c0 w2 (by simp only [maxLen]; omega) HT.out (HA1.out.old HV2.out))
    have HZ2 := hide HW2.out.size
    cases hf : findF xs with
    | some o =>
      have HR := hide (verdO_ser hne hf)
      rw [hf] at HFs
      clear hf hne
      go_wp2_with (go_at_call 36; refine HFs.out.mono ?_; rintro e w3 ⟨v2, rfl, hH2, hb2⟩; have hX2 := HXc.out w3 (HW2.out.trans (hb2.mono HW2.out.size)); have HB3 := hide (HB2.out.trans (hb2.mono HB2.out.size)); have HH2 := hide hH2; obtain ⟨A2, c2, rfl, _, _, _⟩ := hH2; have e0 := hX2.cell 0; have e1 := hX2.cell 1; have e2 := hX2.cell 2; have f0 := hX2.frozen 0; have f1 := hX2.frozen 1; have f2 := hX2.frozen 2; simp only [List.getElem?_toArray, List.getElem?_cons_zero, List.getElem?_cons_succ] at e0 e1 e2; have HZ3 := hide hb2.size; clear hX2 hb2)
      have hzz : w.heap.size < w3.heap.size := by have := HZ2.out; have := HZ3.out; omega
      refine bodyPost_ret (v := .tuple #[.agg #[.bool true, .slice A2 o.length c2, .slice none 0 0], .bool true]) (by simp [results, Tryz.results13, go_sem, e0, e1, e2]) rfl ⟨_, _, by rw [verdD, HR.out]; rfl, ?_, ?_, ?_⟩
      · rw [verdD, HR.out]
        refine HH2.out.mono (fun b h => ⟨by have := h.1; have := HZ2.out; omega, by simpa using h.2⟩) (fun b h => ?_)
        have h1 := h.1
        have h2 := HZ2.out
        repeat (first | rw [Below.heap_setCell _ _ _ _ (by simp; try omega)])
      · rw [verdD, HR.out]; exact slv_nil
      · repeat (first | refine Below.setCell ?_ (by simp; try omega) _ | exact HB3.out)
    | none =>
      rw [hf] at HFs
      go_upto_region 8 with (go_at_call 36; refine HFs.out.mono ?_; rintro e w4 ⟨v2, rfl, hH2, hb2⟩; have HB4 := hide (HB2.out.trans (hb2.mono HB2.out.size)); have HV4 := hide hb2; obtain ⟨A2, c2, rfl, _, _, _⟩ := hH2; clear hb2)
      go_upto_region 10 with fail
      obtain ⟨w3, hw3⟩ : ∃ w3, w3 = w4.alloc (.cells #[.bool false, .slice none 0 0, .slice none 0 0] 32) := ⟨_, rfl⟩
      have HB3 := hide (show Below w.heap.size w w3 by rw [hw3]; exact HB4.out.alloc HB4.out.size _)
      have HV3 := hide (show Below w2.heap.size w2 w3 by rw [hw3]; exact HV4.out.alloc HV4.out.size _)
      have HY3 := hide (show Blk w3 w4.heap.size 32 #[.bool false, .slice none 0 0, .slice none 0 0] by rw [hw3]; exact Blk.new w4 32 #[.bool false, .slice none 0 0, .slice none 0 0])
      have hzg : w4.heap.size < w3.heap.size := by rw [hw3]; simp
      rw [← hw3]
      have HZ4 := hide HV4.out.size
      clear hw3
      have hgw : w.heap.size < w4.heap.size := by have := HZ2.out; have := HZ4.out; omega
      have HX3 := hide (HXc.out w3 (HW2.out.trans (HV3.out.mono HW2.out.size)))
      have HA3 := hide (HA1.out.old (HV2.out.trans (HV3.out.mono HV2.out.size)))
      have HRd := hide (fun (W2 : World) (hb : Below w3.heap.size w3 W2) => specReadsRight xs A0 c0 W2 HV.out HT.out (HA3.out.old hb))
      cases hrb : readsB xs with
      | false =>
        have HR := hide (verdO_bad hne hf hrb)
        rw [hrb] at HRd
        clear hrb hf hne
        have HRd0 := hide (HRd.out w3 (Below.refl _ _))
        go_loopw [8] (fun i wr => i = .int .i64 0 ∧ wr = w3) (fun _ _ => 0)
        case atStart => exact ⟨rfl, rfl⟩
        case round =>
          obtain ⟨rfl, rfl⟩ := hrel
          have hki : (0 : Int) < ((allO xs).length : Int) := by have := HNe.out; omega
          go_wp2_with (go_at_call 23; refine HRd0.out.mono ?_; rintro e w5 ⟨rfl, hb4⟩; have hX4 := HX3.out.below hb4 HX3.out.lt; have hY4 := HY3.out.below hb4 HY3.out.lt; have HB5 := hide (HB3.out.trans (hb4.mono HB3.out.size)); have e0 := hX4.cell 0; have e1 := hX4.cell 1; have e2 := hX4.cell 2; have f0 := hX4.frozen 0; have f1 := hX4.frozen 1; have f2 := hX4.frozen 2; have d0 := hY4.cell 0; have d1 := hY4.cell 1; have d2 := hY4.cell 2; simp only [List.getElem?_toArray, List.getElem?_cons_zero, List.getElem?_cons_succ] at e0 e1 e2 d0 d1 d2; have HZ5 := hide hb4.size; clear hX4 hY4 hb4)
          have hzz : w.heap.size < w5.heap.size := by have := HZ5.out; omega
          refine bodyPost_ret (v := .tuple #[.agg #[.bool false, .slice none 0 0, .slice none 0 0], .bool true]) (by simp [results, Tryz.results13, go_sem, e0, e1, e2]) rfl ⟨_, _, by rw [verdD, HR.out]; rfl, ?_, ?_, ?_⟩
          · rw [verdD, HR.out]; exact slv_nil
          · rw [verdD, HR.out]; exact slv_nil
          · repeat (first | refine Below.setCell ?_ (by simp; try omega) _ | exact HB5.out)
      | true =>
        have HR := hide (verdO_cyc hne hf hrb)
        have HRb := hide hrb
        clear hrb hf hne
        have HCa := hide (cycK_all xs)
        have hqa : (allO xs).length ≤ 9223372036854775807 := by omega
        clear hzb
        generalize allO xs = all at HR2 HBd hl2 h11 HCa hqa ⊢
        have HO0 := hide (show Own TB 23 w3 (fun b => w3.heap.size ≤ b ∧ Old w3 b) [] (.slice none 0 0) from Own.nil_)
        have HN0 := hide (Only.refl (fun b => w3.heap.size ≤ b ∨ b = w4.heap.size) w3)
        go_loopw [8] (fun i wr => ∃ (k : Nat) (cv : Value) (ps : List (List Int × Nat)), k ≤ all.length ∧ i = .int .i64 k ∧ Hid (ps.map Prod.fst = cycK xs all k) ∧ Hid (Far ps) ∧ Hid (Own TB 23 wr (fun b => w3.heap.size ≤ b ∧ Old wr b) ps cv) ∧ Hid (Blk wr w4.heap.size 32 #[.bool false, .slice none 0 0, cv]) ∧ Hid (Only (fun b => w3.heap.size ≤ b ∨ b = w4.heap.size) w3 wr)) (fun i _ => all.length - (intOf i).toNat)
        case atStart => exact ⟨0, _, [], Nat.zero_le _, rfl, rfl, (show Far [] from List.Pairwise.nil), HO0.out, HY3.out, HN0.out⟩
        case round =>
          obtain ⟨k, cv, ps, hk, rfl, hP, hFr, hO, hBk, hOn⟩ := hrel
          have HP := hide hP.out; have HFr := hide hFr.out; have HO1 := hide hO.out; have HBk := hide hBk.out; have HOn := hide hOn.out
          clear hP hFr hO hBk hOn HO0 HN0
          have HZr := hide HOn.out.size
          have HP2 := hide (below_only HV3.out HOn.out HV3.out.size (fun i hi => by have := HV3.out.size; have := HZ4.out; rcases hi with h | rfl <;> omega))
          have HPw := hide (below_only HB3.out HOn.out HB3.out.size (fun i hi => by have := HB3.out.size; rcases hi with h | rfl <;> omega))
          have hgr : w4.heap.size < wr.heap.size := by have := HZr.out; omega
          by_cases hlt : k < all.length
          · have hki : (k : Int) < (all.length : Int) := by omega
            have HRd5 := hide (specReadsRight xs A0 c0 wr HV.out HT.out (HA1.out.old (HV2.out.trans (HP2.out.mono HV2.out.size))))
            rw [HRb.out] at HRd5
            obtain ⟨b7, off7, A7, c7, rfl, hb7, g0, g1, g2, hR7⟩ := at_SliceG HR2.out hlt
            go_upto_region 12 with (go_at_call 23; refine HRd5.out.mono ?_; rintro e w5 ⟨rfl, hb5⟩; have HV5 := hide hb5; clear hb5)
            have HZ5 := hide HV5.out.size
            have HOc := hide (show Own TB 23 w5 (fun b => w3.heap.size ≤ b ∧ b < w5.heap.size) ps cv from own_stay HO1.out HV5.out)
            have HBk5 := hide (HBk.out.below HV5.out hgr)
            have HOn5 := hide (HOn.out.trans (Only.of_below HV5.out))
            have HP25 := hide (HP2.out.trans (HV5.out.mono HP2.out.size))
            have HPw5 := hide (HPw.out.trans (HV5.out.mono HPw.out.size))
            have HZr5 := hide (Nat.le_trans HZr.out HZ5.out)
            have hgr5 : w4.heap.size < w5.heap.size := by have := HZ5.out; omega
            clear HO1 HBk HOn HP2 HPw HZr hgr
            have HZr := HZr5
            have HXv := hide (fun (W2 : World) (hb : Only (fun b => w3.heap.size ≤ b) w5 W2) => (HBk5.out.of (hb.block w4.heap.size hgr5 (by omega))).cell 2)
            simp only [List.getElem?_toArray, List.getElem?_cons_zero, List.getElem?_cons_succ] at HXv
            have HX7 := hide (fun (W2 : World) (hb : Only (fun b => w3.heap.size ≤ b) w5 W2) => ((below_only HP25.out hb HP25.out.size (fun i hi => by have := HV3.out.size; omega)).cell (p := ⟨b7, off7 + k, none⟩) hb7).trans g0)
            have hbd := HBd.out all[k] (List.getElem_mem hlt)
            have HEd := hide (fun (W2 : World) (hb : Only (fun b => w3.heap.size ≤ b) w5 W2) => specEdgesOf xs all[k] A0 A7 c0 c7 W2 (by simp only [maxLen]; omega) HT.out (by omega) (fun o ho => by have := hbd.2 o ho; omega) (HA1.out.old (HV2.out.trans ((below_only HP25.out hb HP25.out.size (fun i hi => by have := HV3.out.size; omega)).mono HV2.out.size))) (hR7.old (below_only HP25.out hb HP25.out.size (fun i hi => by have := HV3.out.size; omega))))
            have hel := edgR_len xs all[k]
            have HCs := hide (cycK_succ xs all k hlt)
            have HPn := hide (show ps.length ≤ 200 by have h := congrArg List.length HP.out; rw [List.length_map, cycK_len xs all k (by omega)] at h; omega)
            clear hR7 hbd g0
            generalize edgR xs all[k] = es at HEd hel HCs
            generalize all[k] = os at g1 HEd HX7
            have HCy := hide (fun (A9 : Option Addr) (d9 : Nat) (W2 : World) (h : Row tEdge W2 (Old W2) A9 es) => specCycleOf (xs.length : Int) es A9 d9 W2 (by simp only [maxLen]; omega) h)
            generalize cycO (xs.length : Int) es = cy at HCy HCs
            refine wp_region_facts 14 (JVer w5 w3.heap.size 12) (FVer 9 w3.heap.size w5.heap.size es cy ps (fun q9 : Nat => match q9 with | 0 => .pointer (some ⟨w4.heap.size, 2, none⟩) | 1 => cv | 2 => .slice A0 xs.length c0 | 3 => .int .i64 (xs.length : Int) | 4 => .slice A0 xs.length c0 | 5 => .slice (some ⟨b7, off7, none⟩) all.length c1 | 6 => .int .i64 (k : Int) | 7 => .pointer (some ⟨b7, off7 + k, none⟩) | 8 => .slice A7 os.length c7 | 9 => undef | 10 => undef | 11 => undef | 12 => undef | 13 => .pointer (some ⟨w4.heap.size, 2, none⟩) | _ => undef)) (fun k9 a b => Only (fun q => q < w5.heap.size) a b ∧ (k9 ≠ 12 → Below a.heap.size a b)) [some 36, some 37, some 38, some 39, some 40, some 41, some 42, some 43, some 44, some 45, some 46, some 47, some 48, some 49] (by kernel_rfl) (by kernel_rfl) (by kernel_rfl) (by kernel_rfl) (JVer.start _ _ _ _) ?_ ?_ ?_
            · intro i k9 v wa wb _ _ hnd hF hE
              refine hF.ev hE.1 (fun e => hE.2 (fun e2 => ?_))
              subst e; subst e2
              exact absurd hnd (by rw [show needB _ _ _ _ = true by kernel_rfl]; simp)
            · intro i o hi ho a wa L9 hL hJ hc hd K hK
              have hz9 := hJ.only.size
              have hi' : i = 0 ∨ i = 1 ∨ i = 2 ∨ i = 3 ∨ i = 4 ∨ i = 5 ∨ i = 6 ∨ i = 7 ∨ i = 8 ∨ i = 9 ∨ i = 10 ∨ i = 11 ∨ i = 12 ∨ i = 13 := by omega
              clear hi
              rcases hi' with rfl | rfl | rfl | rfl | rfl | rfl | rfl | rfl | rfl | rfl | rfl | rfl | rfl | rfl
              all_goals
                simp only [List.getElem?_toArray, List.getElem?_cons_zero, List.getElem?_cons_succ, Option.some.injEq] at ho
                subst ho
                simp only [reduceCtorEq, if_false] at hK
              · have e7 := (hc 7 (by kernel_rfl)).trans rfl
                go_simp
                exact hK _ _ (FVer.val (by decide) rfl) (hJ.up (by decide) (Below.refl _ _)) ⟨Only.of_below (Below.refl _ _), fun _ => Below.refl _ _⟩
              · have e36 : a.tmps.getD 36 undef = .pointer (some ⟨w4.heap.size, 2, none⟩) := (hd 0 36 (by kernel_rfl)).get (by decide)
                have c9 := HXv.out wa hJ.only
                go_simp
                exact hK _ _ (FVer.val (by decide) rfl) (hJ.up (by decide) (Below.refl _ _)) ⟨Only.of_below (Below.refl _ _), fun _ => Below.refl _ _⟩
              · have e0 := (hc 0 (by kernel_rfl)).trans rfl
                go_simp
                exact hK _ _ (FVer.val (by decide) rfl) (hJ.up (by decide) (Below.refl _ _)) ⟨Only.of_below (Below.refl _ _), fun _ => Below.refl _ _⟩
              · have e38 : a.tmps.getD 38 undef = .slice A0 xs.length c0 := (hd 2 38 (by kernel_rfl)).get (by decide)
                go_simp
                exact hK _ _ (FVer.val (by decide) rfl) (hJ.up (by decide) (Below.refl _ _)) ⟨Only.of_below (Below.refl _ _), fun _ => Below.refl _ _⟩
              · have e0 := (hc 0 (by kernel_rfl)).trans rfl
                go_simp
                exact hK _ _ (FVer.val (by decide) rfl) (hJ.up (by decide) (Below.refl _ _)) ⟨Only.of_below (Below.refl _ _), fun _ => Below.refl _ _⟩
              · have e4 := (hc 4 (by kernel_rfl)).trans rfl
                go_simp
                exact hK _ _ (FVer.val (by decide) rfl) (hJ.up (by decide) (Below.refl _ _)) ⟨Only.of_below (Below.refl _ _), fun _ => Below.refl _ _⟩
              · have e8 := (hc 8 (by kernel_rfl)).trans rfl
                go_simp
                exact hK _ _ (FVer.val (by decide) rfl) (hJ.up (by decide) (Below.refl _ _)) ⟨Only.of_below (Below.refl _ _), fun _ => Below.refl _ _⟩
              · have e41 : a.tmps.getD 41 undef = .slice (some ⟨b7, off7, none⟩) all.length c1 := (hd 5 41 (by kernel_rfl)).get (by decide)
                have e42 : a.tmps.getD 42 undef = .int .i64 (k : Int) := (hd 6 42 (by kernel_rfl)).get (by decide)
                have s2 : k < all.length := hlt
                go_simp
                exact hK _ _ (FVer.val (by decide) rfl) (hJ.up (by decide) (Below.refl _ _)) ⟨Only.of_below (Below.refl _ _), fun _ => Below.refl _ _⟩
              · have e43 : a.tmps.getD 43 undef = .pointer (some ⟨b7, off7 + k, none⟩) := (hd 7 43 (by kernel_rfl)).get (by decide)
                have c9 := HX7.out wa hJ.only
                go_simp
                exact hK _ _ (FVer.val (by decide) rfl) (hJ.up (by decide) (Below.refl _ _)) ⟨Only.of_below (Below.refl _ _), fun _ => Below.refl _ _⟩
              · have e40 : a.tmps.getD 40 undef = .slice A0 xs.length c0 := (hd 4 40 (by kernel_rfl)).get (by decide)
                have e44 : a.tmps.getD 44 undef = .slice A7 os.length c7 := (hd 8 44 (by kernel_rfl)).get (by decide)
                go_simp
                refine (HEd.out wa hJ.only).mono ?_
                rintro e w9 ⟨v9, rfl, hO9, hb9⟩
                obtain ⟨A9, d9, rfl, h91, h92, h93⟩ := hO9
                exact hK _ _ (FVer.iff0.2 ⟨A9, d9, rfl, h93.mono (fun b h => ⟨Nat.le_trans hz9 h.1, h.2⟩) (fun _ _ => rfl)⟩) (hJ.up (by decide) hb9) ⟨Only.of_below hb9, fun _ => hb9⟩
              · have e39 : a.tmps.getD 39 undef = .int .i64 (xs.length : Int) := (hd 3 39 (by kernel_rfl)).get (by decide)
                obtain ⟨A9, d9, f9, hR9⟩ := FVer.iff0.1 (hd 9 45 (by kernel_rfl))
                have e9 : a.tmps.getD 45 undef = .slice A9 es.length d9 := f9
                clear f9
                rw [Array.getD_eq_getD_getElem?] at e9
                go_simp
                refine (HCy.out A9 d9 wa (hR9.mono (fun b h => h.2) (fun _ _ => rfl))).mono ?_
                rintro e w9 ⟨v9, rfl, hO9, hb9⟩
                obtain ⟨g0, hG9, _⟩ := hO9.hold
                have hH0 := hG9.mono (w' := w9) (S2 := fun b => w5.heap.size ≤ b ∧ Old w9 b) (fun b h => ⟨Nat.le_trans hz9 h.1, h.2⟩) (fun _ _ => rfl)
                obtain ⟨g9, hg9, hH9⟩ := hH0.ge (lo := w5.heap.size) (fun b h => h.1)
                exact hK _ _ (FVer.iff1.2 ⟨g9, hg9, hH9⟩) (hJ.up (by decide) hb9) ⟨Only.of_below hb9, fun _ => hb9⟩
              · obtain ⟨g9, hg9, hH9⟩ := FVer.iff1.1 (hd 10 46 (by kernel_rfl))
                have hH0 := hH9
                obtain ⟨A9, d9, f9, h91, h92, h93⟩ := hH9
                have e9 : a.tmps.getD 46 undef = .slice A9 cy.length d9 := f9
                rw [f9] at hH0
                clear f9 h93
                rw [Array.getD_eq_getD_getElem?] at e9
                go_simp
                exact hK _ _ (FVer.iff2.2 ⟨wa.heap.size, g9, hg9, rfl, hz9, by simp [Old], (row_one (T := TB) 23 (cs := [_]) ⟨_, rfl, hH0⟩ (fun b hb => hb.2)).stay (fun b hb => ⟨hb.1, Nat.lt_of_lt_of_le hb.2 (by simp)⟩) (fun _ _ => rfl) rfl⟩) (hJ.up (by decide) ((Below.refl _ wa).alloc (Nat.le_refl _) _)) ⟨Only.of_below ((Below.refl _ wa).alloc (Nat.le_refl _) _), fun _ => (Below.refl _ wa).alloc (Nat.le_refl _) _⟩
              · have e37 : a.tmps.getD 37 undef = cv := (hd 1 37 (by kernel_rfl)).get (by decide)
                have hO := HOc.out.mono (w' := wa) (S2 := fun b => w3.heap.size ≤ b ∧ b < w5.heap.size) (fun b h => h) (fun b h => (hJ.fresh hL).block b h.2)
                obtain ⟨p9, g9, hg9, f9, hp9, hpo9, hy9⟩ := FVer.iff2.1 (hd 11 47 (by kernel_rfl))
                refine wp_app TB (.tmp 37) (.tmp 47) 24 rfl 23 i1 _ 24 Tryz.underlying24 hi1 hz01 hz11 hz21 rfl (by decide) (fun b => w3.heap.size ≤ b ∧ b < w5.heap.size) (fun b => w5.heap.size ≤ b ∧ Old wa b) (fun b => w3.heap.size ≤ b) ps [(cy, g9)] cv e37 hO _ 1 1 f9 rfl hy9 (by have := HPn.out; simp only [maxLen, List.length_singleton]; omega) (by have := HPn.out; simp only [List.length_singleton]; omega) (fun b h => Nat.lt_of_lt_of_le h.2 hz9) (fun b hb => ⟨hb.2, fun e => by have := (HOc.out.owned b e).2; have := hb.1; omega⟩) (fun b h => h.1) (fun b hb => Nat.le_trans HZr.out hb.1) (Nat.le_trans HZr.out hz9) ?_
                intro v9 w9 hO9 hg_
                have hk9 : Only (fun b => w3.heap.size ≤ b ∧ b < w5.heap.size) wa w9 := Only.of_grown hg_ (fun b e => HOc.out.owned b e)
                exact hK _ _ (FVer.iff3.2 ⟨g9, hg9, hO9⟩) (hJ.app (hk9.mono fun b h => h.1)) ⟨hk9.mono fun b h => h.2, fun e => absurd rfl e⟩
              · have e7 := (hc 7 (by kernel_rfl)).trans rfl
                go_simp
                exact hK _ _ (FVer.val (by decide) rfl) (hJ.up (by decide) (Below.refl _ _)) ⟨Only.of_below (Below.refl _ _), fun _ => Below.refl _ _⟩
            · intro vs wz L9 hL hJ hF
              obtain ⟨g9, hg9, hO9⟩ := FVer.iff3.1 (hF 12 (by decide))
              have f10 : vs 13 = .pointer (some ⟨w4.heap.size, 2, none⟩) := (hF 13 (by decide)).get (by decide)
              obtain ⟨A9, d9, f9, h91, h92, _⟩ := hO9.sl
              rw [f9] at hO9
              have HF2 := hide (far_snoc (p := (cy, g9)) HFr.out (own_old HOc.out) hg9)
              have HP9 := hide (show (ps ++ [(cy, g9)]).map Prod.fst = cycK xs all (k + 1) by rw [List.map_append, HP.out, HCs.out]; rfl)
              have HW9 := hide hJ.only
              have hBz := HBk5.out.of (hJ.only.block w4.heap.size hgr5 (by omega))
              simp only [putD, Act.put, List.setIfInBounds_toArray, List.set_cons_zero, List.set_cons_succ, List.drop_succ_cons, List.drop_zero]
              rw [f9, f10]
              generalize (ps ++ [(cy, g9)]).length = n9 at f9 hO9 h91 ⊢
              have x2 := hBz.cell 2
              have fz := hBz.frozen 2
              simp only [List.getElem?_toArray, List.getElem?_cons_zero, List.getElem?_cons_succ] at x2
              have HO5 := hide (hO9.mono (w' := wz.setCell ⟨w4.heap.size, 2, none⟩ (.slice A9 n9 d9)) (S2 := fun b => w3.heap.size ≤ b ∧ Old (wz.setCell ⟨w4.heap.size, 2, none⟩ (.slice A9 n9 d9)) b) (fun b h => ⟨h.1, by have := h.2; simpa [Old] using this⟩) (fun b h => Below.heap_setCell _ _ _ _ (by have := h.1; simp; omega)))
              have HK5 := hide (show Blk (wz.setCell ⟨w4.heap.size, 2, none⟩ (.slice A9 n9 d9)) w4.heap.size 32 #[.bool false, .slice none 0 0, .slice A9 n9 d9] from hBz.set_ 2 _)
              have HN5 := hide ((HOn5.out.trans (HW9.out.mono fun b h => .inl h)).setCell (p := ⟨w4.heap.size, 2, none⟩) (.inr rfl) (.slice A9 n9 d9))
              clear hF hJ f9 f10 hO9 hBz
              go_wp2_with fail
              go_roundw
              case rel => exact ⟨k + 1, _, ps ++ [(cy, g9)], by omega, by go_num, HP9.out, HF2.out, HO5.out, HK5.out, HN5.out⟩
              case measure => simp [intOf]; omega
          · obtain rfl : k = all.length := by omega
            have HPe := hide (HP.out.trans HCa.out)
            have hki : ¬ (all.length : Int) < (all.length : Int) := by omega
            have hX4 := HXc.out wr (HW2.out.trans (HP2.out.mono HW2.out.size))
            obtain ⟨g9, hH9, _⟩ := HO1.out.hold
            have HH9 := hide hH9
            obtain ⟨A9, d9, rfl, _, _, _⟩ := hH9
            have e0 := hX4.cell 0; have e1 := hX4.cell 1; have e2 := hX4.cell 2; have f0 := hX4.frozen 0; have f1 := hX4.frozen 1; have f2 := hX4.frozen 2; have d0 := HBk.out.cell 0; have d1 := HBk.out.cell 1; have d2 := HBk.out.cell 2
            simp only [List.getElem?_toArray, List.getElem?_cons_zero, List.getElem?_cons_succ] at e0 e1 e2 d0 d1 d2
            clear hX4
            have hzz : w.heap.size < wr.heap.size := by omega
            have hw3 : w.heap.size < w3.heap.size := by omega
            go_wp2_with fail
            refine bodyPost_ret (v := .tuple #[.agg #[.bool false, .slice none 0 0, .slice A9 ps.length d9], .bool true]) (by simp [results, Tryz.results13, go_sem, e0, e1, e2]) rfl ⟨_, _, by rw [verdD, HR.out]; rfl, ?_, ?_, ?_⟩
            · rw [verdD, HR.out]; exact slv_nil
            · rw [verdD, HR.out]
              refine HoldS.sl ⟨ps, g9, HPe.out, HH9.out.mono (fun b h => ⟨by have := h.1; omega, by have := h.2; simpa [Old] using this⟩) (fun b h => ?_), HFr.out⟩
              have h1 := h.1
              repeat (first | rw [Below.heap_setCell _ _ _ _ (by simp; try omega)])
            · repeat (first | refine Below.setCell ?_ (by simp; try omega) _ | exact HPw.out)
  · have HR := hide (verdO_no hne)
    have hzb : (((allO xs).length : Int) == 0) = true := by rw [beq_iff_eq]; omega
    clear hne
    go_wp2_with (go_at_call 21; refine HAo.out.mono ?_; rintro e w2 ⟨v2, rfl, hS1, hb2⟩; obtain ⟨A1, c1, rfl, h11, h12, h13⟩ := hS1; have hX1 := HXc.out w2 (HW1.out.trans (hb2.mono HW1.out.size)); have HB2 := hide (HB1.out.trans (hb2.mono HB1.out.size)); have e0 := hX1.cell 0; have e1 := hX1.cell 1; have e2 := hX1.cell 2; have f0 := hX1.frozen 0; have f1 := hX1.frozen 1; have f2 := hX1.frozen 2; simp only [List.getElem?_toArray, List.getElem?_cons_zero, List.getElem?_cons_succ] at e0 e1 e2; have HZ1 := hide HW1.out.size; have HZ2 := hide hb2.size; clear hX1 hb2 h13)
    have hzz : w.heap.size < w2.heap.size := by have := HZ1.out; have := HZ2.out; omega
    refine bodyPost_ret (v := .tuple #[.agg #[.bool false, .slice none 0 0, .slice none 0 0], .bool false]) (by simp [results, Tryz.results13, go_sem, e0, e1, e2]) rfl ⟨_, _, by rw [verdD, HR.out]; rfl, ?_, ?_, ?_⟩
    · rw [verdD, HR.out]; exact slv_nil
    · rw [verdD, HR.out]; exact slv_nil
    · repeat (first | refine Below.setCell ?_ (by simp; try omega) _ | exact HB2.out)
end Go.Proofs.YtjiobgfaohldhaaGreat
namespace Go.Proofs.YtjiobgfaohldhaaGreat
open Go.RowKit

set_option maxRecDepth 10000 in
set_option maxHeartbeats 400000 in
theorem eqIntS (xs : List Int) (A B : Option Addr) (c d : Nat) (w : World) (hl : xs.length ≤ maxLen) (hA : Row tInt w (Old w) A xs) (hB : Row tInt w (Old w) B xs) :
    Calls Tryz.prog 33 #[.slice A xs.length c, .slice B xs.length d] w fun e w' => e = .returned (.bool true) ∧ Below w.heap.size w w' := by
  unfold maxLen at hl
  go_enter Tryz.func33, Tryz.ntmps33
  go_wp2
  go_loopw [5] (fun i wr => ∃ k : Nat, k ≤ xs.length ∧ i = .int .i64 k ∧ Below w.heap.size w wr) (fun i _ => xs.length - (intOf i).toNat)
  case atStart => exact ⟨0, Nat.zero_le _, rfl, Below.refl _ _⟩
  case round =>
    obtain ⟨k, hk, rfl, hb⟩ := hrel
    by_cases hlt : k < xs.length
    · obtain ⟨b, off, rfl, hbS, c0_⟩ := at_Int hA hb hlt
      obtain ⟨b2, off2, rfl, hbS2, d0_⟩ := at_Int hB hb hlt
      clear hA hB
      go_wp2
      go_quiet (fail)
      go_wp2
      go_roundw
      case rel => exact ⟨k + 1, by omega, by go_num, below_drewN hb _⟩
      case measure => simp [intOf]; omega
    · clear hA hB
      go_wp2
      go_ret
      exact ⟨rfl, hb⟩
theorem eqOp (x : Op) (w : World) :
    Calls Tryz.prog 115 #[.agg #[.int .i64 x.Kind, .int .i64 x.Key, .int .i64 x.Value], .agg #[.int .i64 x.Kind, .int .i64 x.Key, .int .i64 x.Value]] w fun e w' => e = .returned (.bool true) ∧ Below w.heap.size w w' := by
  go_enter Tryz.func115, Tryz.ntmps115
  go_wp2
  go_ret
  exact ⟨rfl, ((Below.refl _ _).alloc (Nat.le_refl _) _).alloc (by simp) _⟩
set_option maxRecDepth 10000 in
set_option maxHeartbeats 400000 in
theorem eqOpS (xs : List Op) (A B : Option Addr) (c d : Nat) (w : World) (hl : xs.length ≤ maxLen) (hA : Row tOp w (Old w) A xs) (hB : Row tOp w (Old w) B xs) :
    Calls Tryz.prog 73 #[.slice A xs.length c, .slice B xs.length d] w fun e w' => e = .returned (.bool true) ∧ Below w.heap.size w w' := by
  unfold maxLen at hl
  go_enter Tryz.func73, Tryz.ntmps73
  go_wp2
  go_loopw [5] (fun i wr => ∃ k : Nat, k ≤ xs.length ∧ i = .int .i64 k ∧ Below w.heap.size w wr) (fun i _ => xs.length - (intOf i).toNat)
  case atStart => exact ⟨0, Nat.zero_le _, rfl, Below.refl _ _⟩
  case round =>
    obtain ⟨k, hk, rfl, hb⟩ := hrel
    by_cases hlt : k < xs.length
    · obtain ⟨b, off, rfl, hbS, c0_, c1_, c2_⟩ := at_Op hA hb hlt
      obtain ⟨b2, off2, rfl, hbS2, d0_, d1_, d2_⟩ := at_Op hB hb hlt
      clear hA hB
      go_wp2
      go_still_tail 8, (by kernel_rfl)
      have hbd : Below wr.heap.size wr wr.drew := (Below.refl _ _).drew
      change wpList _ _ _ _ _ wr.drew
      have hcall := (eqOp xs[k] wr.drew)
      have hb2 : Below w.heap.size w wr.drew := hb.drew
      clear hbd
      generalize wr.drew = w2 at hb2 hcall ⊢
      have HC := hide hcall
      clear hcall
      go_wp2_with (go_at_call 115; refine HC.out.mono ?_; rintro e w' ⟨rfl, hb'⟩)
      go_roundw
      case rel => exact ⟨k + 1, by omega, by go_num, hb2.trans (hb'.mono hb2.size)⟩
      case measure => simp [intOf]; omega
    · clear hA hB
      go_wp2
      go_ret
      exact ⟨rfl, hb⟩
end Go.Proofs.YtjiobgfaohldhaaGreat
namespace Go.Proofs.YtjiobgfaohldhaaGreat
open Go.RowKit

set_option maxRecDepth 10000 in
set_option maxHeartbeats 400000 in
theorem eqIntSS (xs : List (List Int)) (A B : Option Addr) (c d : Nat) (w : World) (hl : xs.length ≤ maxLen) (hn : ∀ x ∈ xs, x.length ≤ maxLen) (hA : Row (tSlice tInt) w (Old w) A xs) (hB : Row (tSlice tInt) w (Old w) B xs) :
    Calls Tryz.prog 34 #[.slice A xs.length c, .slice B xs.length d] w fun e w' => e = .returned (.bool true) ∧ Below w.heap.size w w' := by
  unfold maxLen at hl
  go_enter Tryz.func34, Tryz.ntmps34
  go_wp2
  go_loopw [5] (fun i wr => ∃ k : Nat, k ≤ xs.length ∧ i = .int .i64 k ∧ Below w.heap.size w wr) (fun i _ => xs.length - (intOf i).toNat)
  case atStart => exact ⟨0, Nat.zero_le _, rfl, Below.refl _ _⟩
  case round =>
    obtain ⟨k, hk, rfl, hb⟩ := hrel
    by_cases hlt : k < xs.length
    · have hi0 := hn xs[k] (List.getElem_mem hlt)
      obtain ⟨b, off, A3, c3, rfl, hbS, c0_, hi1, hi2, hi3⟩ := at_IntS hA hb hlt
      obtain ⟨b2, off2, A4, c4, rfl, hbS2, d0_, hj1, hj2, hj3⟩ := at_IntS hB hb hlt
      clear hA hB hn
      have HI := hide hi3; clear hi3; have HJ := hide hj3; clear hj3
      go_wp2
      go_still_tail 8, (by kernel_rfl)
      have hbd : Below wr.heap.size wr wr.drew := (Below.refl _ _).drew
      change wpList _ _ _ _ _ wr.drew
      have hcall := (eqIntS xs[k] A3 A4 c3 c4 wr.drew hi0 (HI.out.old hbd) (HJ.out.old hbd))
      have hb2 : Below w.heap.size w wr.drew := hb.drew
      clear hbd
      generalize wr.drew = w2 at hb2 hcall ⊢
      have HC := hide hcall
      clear hcall
      go_wp2_with (go_at_call 33; refine HC.out.mono ?_; rintro e w' ⟨rfl, hb'⟩)
      go_roundw
      case rel => exact ⟨k + 1, by omega, by go_num, hb2.trans (hb'.mono hb2.size)⟩
      case measure => simp [intOf]; omega
    · clear hA hB hn
      go_wp2
      go_ret
      exact ⟨rfl, hb⟩
end Go.Proofs.YtjiobgfaohldhaaGreat
namespace Go.Proofs.YtjiobgfaohldhaaGreat
open Go.RowKit

theorem szIntS (n : Nat) (A : Option Addr) (c : Nat) (left : Int) (w : World) (hn : n ≤ maxLen) (h0 : 0 ≤ left) (h1 : left ≤ 1048576) :
    Calls Tryz.prog 19 #[.slice A n c, .int .i64 left] w fun e w' => ∃ r, e = .returned (.int .i64 r) ∧ Sz n left r ∧ w = w' := by
  unfold maxLen at hn
  by_cases hlt : left - n < 0
  · go_enter Tryz.func19, Tryz.ntmps19
    go_wp2
    go_ret
    exact ⟨_, rfl, .inl rfl, rfl⟩
  · go_enter Tryz.func19, Tryz.ntmps19
    go_wp2
    go_ret
    exact ⟨_, rfl, .inr ⟨by omega, by omega⟩, rfl⟩
theorem szOpS (n : Nat) (A : Option Addr) (c : Nat) (left : Int) (w : World) (hn : n ≤ maxLen) (h0 : 0 ≤ left) (h1 : left ≤ 1048576) :
    Calls Tryz.prog 48 #[.slice A n c, .int .i64 left] w fun e w' => ∃ r, e = .returned (.int .i64 r) ∧ Sz n left r ∧ w = w' := by
  unfold maxLen at hn
  by_cases hlt : left - n < 0
  · go_enter Tryz.func48, Tryz.ntmps48
    go_wp2
    go_ret
    exact ⟨_, rfl, .inl rfl, rfl⟩
  · go_enter Tryz.func48, Tryz.ntmps48
    go_wp2
    go_ret
    exact ⟨_, rfl, .inr ⟨by omega, by omega⟩, rfl⟩
set_option maxHeartbeats 400000 in
theorem szIntSS (xs : List (List Int)) (A : Option Addr) (c : Nat) (left : Int) (w : World) (hl : xs.length ≤ maxLen) (hn : ∀ x ∈ xs, x.length ≤ maxLen) (h0 : 0 ≤ left) (h1 : left ≤ 1048576) (hA : Row (tSlice tInt) w (Old w) A xs) :
    Calls Tryz.prog 20 #[.slice A xs.length c, .int .i64 left] w fun e w' => ∃ r, e = .returned (.int .i64 r) ∧ Sz (xs.length + tot (List.length) xs) left r ∧ Below w.heap.size w w' := by
  unfold maxLen at hl
  by_cases hlt0 : left - xs.length < 0
  · clear hA hn
    go_enter Tryz.func20, Tryz.ntmps20
    go_wp2
    go_ret
    exact ⟨_, rfl, .inl rfl, Below.refl _ _⟩
  · go_enter Tryz.func20, Tryz.ntmps20
    go_wp2
    go_loopw [1, 5] (fun l i wr => ∃ (k : Nat) (r : Int), k ≤ xs.length ∧ i = .int .i64 k ∧ l = .int .i64 r ∧ 0 ≤ r ∧ r ≤ 1048576 ∧ Hid (r + (xs.length + tot (List.length) (xs.take k) : Nat) = left) ∧ Below w.heap.size w wr) (fun _ i _ => xs.length - (intOf i).toNat)
    case atStart => exact ⟨0, _, Nat.zero_le _, rfl, rfl, by omega, by omega, (by simp [Hid, tot]; try omega), Below.refl _ _⟩
    case round =>
      obtain ⟨k, l, hk, rfl, rfl, hl0, hl1, hsum, hb⟩ := hrel
      by_cases hlt : k < xs.length
      · obtain ⟨b, off, A3, c3, rfl, hbS, c0_, hi1, hi2, hi3⟩ := at_IntS hA hb hlt
        have hlen := hn xs[k] (List.getElem_mem hlt)
        have hT := hide (tot_take (List.length) xs k hlt)
        clear hA hn hi3
        go_wp2_with (go_at_call 19; refine (szIntS xs[k].length A3 c3 l _ hlen hl0 hl1).mono ?_; rintro e w' ⟨r, rfl, hr, rfl⟩; rcases hr with rfl | ⟨hr1, hr2⟩)
        · go_ret
          exact ⟨_, rfl, .inl rfl, hb⟩
        · go_roundw
          case rel => exact ⟨k + 1, r, by omega, by go_num, rfl, by omega, by omega, (by have h1 := hT.out; have h2 := hsum.out; simp only [Hid]; rw [h1]; omega), hb⟩
          case measure => simp [intOf]; omega
      · obtain rfl : k = xs.length := by omega
        clear hA hn
        go_wp2
        go_ret
        exact ⟨_, rfl, .inr ⟨hl0, by have h2 := hsum.out; rw [List.take_length] at h2; omega⟩, hb⟩
end Go.Proofs.YtjiobgfaohldhaaGreat
namespace Go.Proofs.YtjiobgfaohldhaaGreat
open Go.RowKit
set_option linter.unusedVariables false
set_option linter.unusedSimpArgs false

theorem Hold.roomI {w : World} {S : Nat → Prop} {xs : List Int} {A : Option Addr} {c g : Nat} (h : Hold tInt 3 w S xs (.slice A xs.length c) g) : Room w S 3 A xs.length := fun hp => by
  obtain ⟨A', c', hv, _, _, hr⟩ := h
  injection hv with hA _ _
  subst hA
  obtain ⟨rfl, hg, ⟨cur, hB, hl⟩, _⟩ := hr hp
  exact ⟨g, cur, rfl, hg, hB, by have h1 : xs.length * 1 ≤ cur.size := hl; omega⟩
theorem markInt_hold (xs : List Int) (k : Int) (A : Option Addr) (c : Nat) (w : World) (S : Nat → Prop) (hn : xs.length ≤ 1048576) (h0 : 0 ≤ k) (h1 : k ≤ 1048576) (hH : HoldI w S xs (.slice A xs.length c)) :
    Calls Tryz.prog 44 #[.slice A xs.length c, .int .i64 k] w fun e w' => ∃ ks : Unit, e = .returned (.int .i64 (k + xs.length)) ∧ Only S w w' ∧ MarksAt w' S A k xs.length := by
  obtain ⟨g, hh⟩ := hH
  exact (markIntS xs.length k A c w S (by omega) h0 (by omega) hh.roomI).mono fun e w' ⟨e1, e2, _, e4⟩ => ⟨(), e1, e2.mono fun b hb => hb.1, e4⟩
theorem heldInt_list (xs : List Int) (u : Unit) (k : Int) (A : Option Addr) (c : Nat) (w : World) (S : Nat → Prop) (hn : xs.length ≤ 1048576) (h0 : 0 ≤ k) (h1 : k ≤ 1048576) (hM : MarksAt w S A k xs.length) :
    Calls Tryz.prog 46 #[.slice A xs.length c, .int .i64 k] w fun e w' => e = .returned (.int .i64 (k + xs.length)) ∧ w = w' :=
  heldIntS xs.length k A c w S (by omega) h0 (by omega) hM
end Go.Proofs.YtjiobgfaohldhaaGreat
