/- The law FnListsAgree: both lists that do not agree alone do not agree, either; if all agree, they agree in reverse order, too. -/
import Derived.Test.YtcfllpgppinofaaDoorListsD
import Derived.Test.YtcfllpgppinofaaDoorAlive
import Derived.Test.YtcfllpgppinofaaDoorListsAgree
namespace Go.Proofs.YtcfllpgppinofaaDoor
open Go.RowKit
set_option linter.unusedVariables false

theorem agree_comm (x y : List Int) : agree x y = agree y x := by unfold agree; rw [Bool.or_comm]
theorem listsV_reverse (ls : List (List Int)) : listsV ls.reverse = listsV ls := by
  unfold listsV; rw [List.length_reverse, List.all_reverse]
theorem agree_rev_ok {ls : List (List Int)} {c d : Int} (hv : listsV ls = true) (hA : AgreeTo ls ls.length 0) (h : AgreeAns ls.reverse c d) : c = -1 := by
  rcases h with ⟨h1, _⟩ | ⟨_, h1, _⟩ | ⟨_, k, l, hk, hl, hkl, rfl, rfl, hn, _⟩
  · rw [listsV_reverse, hv] at h1; cases h1
  · exact h1
  · exfalso
    rw [List.getElem_reverse, List.getElem_reverse] at hn
    rw [List.length_reverse] at hk hl
    rw [agree_comm] at hn
    have := hA (ls.length - 1 - l) (ls.length - 1 - k) (by omega) (by omega) (by omega) (.inl (by omega))
    rw [this] at hn
    cases hn
theorem agree_rev_bad {ls : List (List Int)} {c d : Int} {k l : Nat} (hv : listsV ls = true) (hk : k < ls.length) (hl : l < ls.length) (hkl : k < l) (hn : agree ls[k] ls[l] = false) (h : AgreeAns ls.reverse c d) : 0 ≤ c := by
  rcases h with ⟨h1, _⟩ | ⟨_, h1, _, hA⟩ | ⟨_, k', l', hk', hl', hkl', rfl, rfl, hn', _⟩
  · rw [listsV_reverse, hv] at h1; cases h1
  · exfalso
    have := hA (ls.length - 1 - l) (ls.length - 1 - k) (by rw [List.length_reverse]; omega) (by rw [List.length_reverse]; omega) (by omega) (.inl (by rw [List.length_reverse]; omega))
    rw [List.getElem_reverse, List.getElem_reverse, agree_comm] at this
    simp only [show ls.length - 1 - (ls.length - 1 - k) = k by omega, show ls.length - 1 - (ls.length - 1 - l) = l by omega] at this
    rw [this] at hn
    cases hn
  · omega
theorem agree_two {ls : List (List Int)} {k l : Nat} (hv : listsV ls = true) (hk : k < ls.length) (hl : l < ls.length) (hn : agree ls[k] ls[l] = false) : ∀ c d : Int, AgreeAns [ls[k], ls[l]] c d → c = 0 ∧ d = 1 := fun c d h => by
  have hv2 : listsV [ls[k], ls[l]] = true := by
    unfold listsV at hv ⊢
    simp only [Bool.and_eq_true, decide_eq_true_eq, List.all_eq_true] at hv ⊢
    refine ⟨by simp, fun x hx => ?_⟩
    simp only [List.mem_cons, List.mem_nil_iff, or_false] at hx
    rcases hx with rfl | rfl
    · exact hv.2 _ (List.getElem_mem hk)
    · exact hv.2 _ (List.getElem_mem hl)
  refine h.unique (.inr (.inr ⟨hv2, 0, 1, by simp, by simp, by omega, rfl, rfl, hn, fun i j hi hj hij h2 => ?_⟩))
  simp at hi hj
  omega

set_option maxRecDepth 10000 in
set_option maxHeartbeats 8000000 in
theorem lawFnAgree (bs : List Int) (A : Option Addr) (c : Nat) (w : World) (hm : bs.length ≤ maxLen) (hc : bs.length ≤ c) (hcm : c ≤ maxLen) (hA : Row tByte w (Old w) A bs) :
    Calls Tryd.prog 11 #[.slice A bs.length c] w fun e w' => e = .returned (.bool true) ∧ Below w.heap.size w w' := by
  have hq : bs.length ≤ 9223372036854775807 := by simpa [maxLen] using hm
  obtain ⟨i0, hi, hz0, hz1, hz2⟩ := info_parts infoIntSD
  by_cases hl : bs.length ≤ 1048576
  · have HD := hide (drawAgree bs A c w hl hc hcm hA)
    clear hA
    go_enter Tryd.func11, Tryd.ntmps11
    go_wp2_with fail
    refine HD.out.mono ?_
    rintro e w1 ⟨ls, v, rfl, hx, ho, hb1⟩
    obtain ⟨A1, c1, rfl, hle, hcm1, hR1⟩ := ho
    have HR1 := hide hR1; have HB1 := hide hb1; clear hR1 hb1
    have hxm : ls.length ≤ maxLen := by simp only [maxLen]; omega
    go_wp2_with fail
    refine (implListsAgree ls A1 c1 w1 hxm HR1.out).mono ?_
    rintro e w2 ⟨⟨a, b, rfl, hans⟩, hb2⟩
    have HR2 := hide (HR1.out.old hb2); have HB2 := hide (HB1.out.trans (hb2.mono HB1.out.size)); clear hb2
    go_wp2_with fail
    refine (specListsAgree ls A1 c1 w2 hxm HR2.out).mono ?_
    rintro e w3 ⟨⟨a', b', rfl, hans'⟩, hb3⟩
    obtain ⟨rfl, rfl⟩ := hans.unique hans'
    have HR3 := hide (HR2.out.old hb3); have HB3 := hide (HB2.out.trans (hb3.mono HB2.out.size)); clear hb3 hans'
    have HAl := hide alive_any
    clear HR1 HR2 HB1 HB2
    rcases hans with ⟨hv, rfl, rfl⟩ | ⟨hv, rfl, rfl, hall⟩ | ⟨hv, k, l, hk, hl, hkl, rfl, rfl, hn, hall⟩
    · clear hv
      go_wp2_with (go_at_call 23; refine (HAl.out _).mono ?_; rintro e w7 ⟨rfl, hb7⟩; have HB7 := hide (HB3.out.trans (hb7.mono HB3.out.size)); clear hb7)
      go_ret
      exact ⟨rfl, HB7.out⟩
    · have HV := hide hv; have HAll := hide hall
      clear hv hall
      have HOe := hide (Own.empty (T := tAt w3 (Old w3) (tSlice tInt)) (e := 23) w3 (fun b => w3.heap.size ≤ b) (Nat.le_refl _))
      have HKe := hide (Only.of_alloc (K := fun b => w3.heap.size ≤ b) w3 (.cells #[] 23))
      go_wp2_with fail
      go_loopw [8, 9] (fun v kk wr => ∃ j : Nat, j ≤ ls.length ∧ Hid (kk = .int .i64 ((j : Int) - 1)) ∧ Hid (Own (tAt w3 (Old w3) (tSlice tInt)) 23 wr (fun b => w3.heap.size ≤ b ∧ Old wr b) (ls.drop j).reverse v) ∧ Hid (Only (fun b => w3.heap.size ≤ b) w3 wr)) (fun _ kk _ => (intOf kk + 1).toNat)
      case atStart => exact ⟨ls.length, Nat.le_refl _, rfl, by rw [List.drop_length]; exact HOe.out, HKe.out⟩
      case round =>
        obtain ⟨j, hj, hkk, hO, hK⟩ := hrel
        clear HOe HKe
        rcases j with _ | i
        · obtain rfl := hkk.out
          clear hkk
          have hO0 := hO.out.slAt (W := wr) (fun b hb => Nat.lt_of_lt_of_le hb hK.out.size) (fun b hb => hK.out.block b hb (fun h => by have hb' : b < w3.heap.size := hb; omega)) (fun b hb => hb.2)
          rw [List.drop_zero] at hO0
          obtain ⟨ys, hys⟩ : ∃ ys, ys = ls.reverse := ⟨_, rfl⟩
          have hyl : ys.length ≤ maxLen := by rw [hys, List.length_reverse]; exact hxm
          rw [← hys] at hO0
          obtain ⟨A4, c4, rfl, hle4, hcm4, hR4⟩ := hO0
          have HC := hide (implListsAgree ys A4 c4 wr hyl hR4)
          have HB4 := hide (below_only HB3.out hK.out HB3.out.size (fun i hi => Nat.le_trans HB3.out.size hi))
          have HR5 := hide (HR3.out.old hK.out.below)
          have HYs := hide hys
          clear hys hyl hR4 hO hK
          go_wp2_with fail
          refine HC.out.mono ?_
          rintro e w6 ⟨⟨c6, d6, rfl, hans6⟩, hb6⟩
          have HB6 := hide (HB4.out.trans (hb6.mono HB4.out.size))
          have HR6 := hide (HR5.out.old hb6)
          rw [HYs.out] at hans6
          have hc6 : c6 = -1 := agree_rev_ok HV.out HAll.out hans6
          subst hc6
          clear hb6 hans6
          go_wp2_with fail
          go_ret
          exact ⟨rfl, HB6.out⟩
        · have hkk2 := hkk.out
          rw [show (((i + 1 : Nat) : Int) - 1) = (i : Int) by omega] at hkk2
          subst hkk2
          clear hkk
          have hil : i < ls.length := by omega
          obtain ⟨b, off, hAe, hbS, hrow⟩ := HR3.out (by omega)
          obtain ⟨cs, ⟨v5, rfl, A5, c5, rfl, h51, h52, h53⟩, hcs⟩ := hrow i hil
          have d0 : wr.cell? ⟨b, off + i, none⟩ = some (.slice A5 ls[i].length c5) := by
            have h := (hK.out.below.cell (p := ⟨b, off + i * (tSlice tInt).size + 0, none⟩) hbS).trans (hcs 0 _ rfl)
            simpa [tSlice] using h
          have HY := hide (show (tSlice tInt).rel w3 (Old w3) ls[i] [.slice A5 ls[i].length c5] from ⟨_, rfl, A5, c5, rfl, h51, h52, h53⟩)
          have HAe := hide hAe
          have HT := hide (show (ls.drop (i + 1)).reverse ++ [ls[i]] = (ls.drop i).reverse by rw [List.drop_eq_getElem_cons hil, List.reverse_cons])
          clear hrow hcs h51 h52 h53 hbS
          subst hAe
          go_wp2_with (at_builtin; refine wpList_put (tAt w3 (Old w3) (tSlice tInt)) rfl (.tmp 52) (.tmp 57) 56 rfl 23 i0 _ 24 Tryd.underlying56 hi hz0 hz1 hz2 rfl Nat.zero_lt_one (fun b => w3.heap.size ≤ b) (fun _ => False) (ls.drop (i + 1)).reverse ls[i] [.slice A5 ls[i].length c5] _ rfl hO.out _ rfl HY.out (fun _ h => h.elim) (fun b hb => Nat.le_trans hK.out.size hb) (by simp only [maxLen, List.length_reverse, List.length_drop]; omega) (by simp only [List.length_reverse, List.length_drop]; omega) ?_; intro v5 w5 hO_ hK_; have HO5 := hide hO_; have HK5 := hide (hK.out.trans hK_); clear hO_ hK_)
          rw [HT.out] at HO5
          go_roundw
          case rel => exact ⟨i, by omega, rfl, HO5.out, HK5.out⟩
          case measure => simp [intOf]
    · have HV := hide hv; have HN := hide hn
      have hn2 : ((k : Int) == -2) = false := by rw [beq_eq_false_iff_ne]; omega
      clear hv hn hall
      have HOe := hide (Own.empty (T := tAt w3 (Old w3) (tSlice tInt)) (e := 23) w3 (fun b => w3.heap.size ≤ b) (Nat.le_refl _))
      have HKe := hide (Only.of_alloc (K := fun b => w3.heap.size ≤ b) w3 (.cells #[] 23))
      go_wp2_with fail
      go_loopw [8, 9] (fun v kk wr => ∃ j : Nat, j ≤ ls.length ∧ Hid (kk = .int .i64 ((j : Int) - 1)) ∧ Hid (Own (tAt w3 (Old w3) (tSlice tInt)) 23 wr (fun b => w3.heap.size ≤ b ∧ Old wr b) (ls.drop j).reverse v) ∧ Hid (Only (fun b => w3.heap.size ≤ b) w3 wr)) (fun _ kk _ => (intOf kk + 1).toNat)
      case atStart => exact ⟨ls.length, Nat.le_refl _, rfl, by rw [List.drop_length]; exact HOe.out, HKe.out⟩
      case round =>
        obtain ⟨j, hj, hkk, hO, hK⟩ := hrel
        clear HOe HKe
        rcases j with _ | i
        · obtain rfl := hkk.out
          clear hkk
          have hO0 := hO.out.slAt (W := wr) (fun b hb => Nat.lt_of_lt_of_le hb hK.out.size) (fun b hb => hK.out.block b hb (fun h => by have hb' : b < w3.heap.size := hb; omega)) (fun b hb => hb.2)
          rw [List.drop_zero] at hO0
          obtain ⟨ys, hys⟩ : ∃ ys, ys = ls.reverse := ⟨_, rfl⟩
          have hyl : ys.length ≤ maxLen := by rw [hys, List.length_reverse]; exact hxm
          rw [← hys] at hO0
          obtain ⟨A4, c4, rfl, hle4, hcm4, hR4⟩ := hO0
          have HC := hide (implListsAgree ys A4 c4 wr hyl hR4)
          have HB4 := hide (below_only HB3.out hK.out HB3.out.size (fun i hi => Nat.le_trans HB3.out.size hi))
          have HR5 := hide (HR3.out.old hK.out.below)
          have HYs := hide hys
          clear hys hyl hR4 hO hK
          go_wp2_with fail
          refine HC.out.mono ?_
          rintro e w6 ⟨⟨c6, d6, rfl, hans6⟩, hb6⟩
          have HB6 := hide (HB4.out.trans (hb6.mono HB4.out.size))
          have HR6 := hide (HR5.out.old hb6)
          rw [HYs.out] at hans6
          have hc6 : 0 ≤ c6 := agree_rev_bad HV.out hk hl hkl HN.out hans6
          clear hb6 hans6
          obtain ⟨cn6, rfl⟩ : ∃ n : Nat, c6 = (n : Int) := ⟨c6.toNat, by omega⟩
          obtain ⟨b, off, A7, c7, hAe, hbS, d0, h71, h72, h73⟩ := at_IntS (w := w6) HR6.out (Below.refl _ _) hk
          obtain ⟨b', off', A8, c8, hAe', _, d1, h81, h82, h83⟩ := at_IntS (w := w6) HR6.out (Below.refl _ _) hl
          subst hAe
          obtain ⟨rfl, rfl⟩ : b = b' ∧ off = off' := by simpa using hAe'
          have hki : (k : Int) < (ls.length : Int) := by omega
          have hli : (l : Int) < (ls.length : Int) := by omega
          have hkli : (k : Int) < (l : Int) := by omega
          have HTwo := hide (agree_two HV.out hk hl HN.out)
          obtain ⟨xk, hxk⟩ : ∃ x, x = ls[k] := ⟨_, rfl⟩
          obtain ⟨xl, hxl⟩ : ∃ x, x = ls[l] := ⟨_, rfl⟩
          rw [← hxk] at d0 h71 h73 HTwo
          rw [← hxl] at d1 h81 h83 HTwo
          have HCg := hide (show ∀ W : World, Below w6.heap.size w6 W → Calls Tryd.prog 44 #[.slice (some ⟨W.heap.size, 0, none⟩) 2 2] (W.alloc (.cells #[.slice A7 xk.length c7, .slice A8 xl.length c8] 23)) (fun e w8 => e = .returned (.tuple #[.int .i64 0, .int .i64 1]) ∧ Below w6.heap.size w6 w8) from fun W hW => by
            have hw : Below w6.heap.size w6 (W.alloc (.cells #[.slice A7 xk.length c7, .slice A8 xl.length c8] 23)) := hW.alloc hW.size _
            have hB : Blk (W.alloc (.cells #[.slice A7 xk.length c7, .slice A8 xl.length c8] 23)) W.heap.size 23 _ := Blk.new W _ _
            have hR : Row (tSlice tInt) (W.alloc (.cells #[.slice A7 xk.length c7, .slice A8 xl.length c8] 23)) (Old (W.alloc (.cells #[.slice A7 xk.length c7, .slice A8 xl.length c8] 23))) (some ⟨W.heap.size, 0, none⟩) [xk, xl] := fun _ => ⟨_, 0, rfl, by simp [Old], fun m hm => by
              match m, hm with
              | 0, _ => exact ⟨_, ⟨_, rfl, A7, c7, rfl, h71, h72, h73.old hw⟩, fun j u hu => by
                  obtain ⟨hj, rfl⟩ := List.getElem?_eq_some_iff.1 hu
                  have hj0 : j = 0 := by simpa using hj
                  subst hj0
                  rw [hB.cell]; rfl⟩
              | 1, _ => exact ⟨_, ⟨_, rfl, A8, c8, rfl, h81, h82, h83.old hw⟩, fun j u hu => by
                  obtain ⟨hj, rfl⟩ := List.getElem?_eq_some_iff.1 hu
                  have hj0 : j = 0 := by simpa using hj
                  subst hj0
                  rw [hB.cell]; rfl⟩
              | m + 2, h => exact absurd h (by simp)⟩
            refine (implListsAgree [xk, xl] _ 2 _ (by simp [maxLen]) hR).mono ?_
            rintro e w8 ⟨⟨d8, e8, rfl, hans8⟩, hb8⟩
            obtain ⟨rfl, rfl⟩ := HTwo.out _ _ hans8
            exact ⟨rfl, hw.trans (hb8.mono hw.size)⟩)
          have HBa := hide (((Below.refl _ w6).alloc (Nat.le_refl _) (.cells #[.slice A7 xk.length c7, .slice A8 xl.length c8] 23)).drew)
          have hbk : b < w6.heap.size := hbS
          clear h71 h72 h73 h81 h82 h83 hbS hAe' hxk hxl HTwo
          go_upto_region 20 with (fail)
          go_region_held3 (fun W => W.cell? ⟨b, off + k, none⟩ = some (.slice A7 xk.length c7) ∧ W.cell? ⟨b, off + l, none⟩ = some (.slice A8 xl.length c8) ∧ Below w6.heap.size w6 W)
            (first
              | ((try dsimp only); exact ⟨d0, d1, (Below.refl _ w6).drew⟩)
              | ((try dsimp only); exact ⟨(HBa.out.cell (p := ⟨b, off + k, none⟩) hbk).trans d0, (HBa.out.cell (p := ⟨b, off + l, none⟩) hbk).trans d1, HBa.out⟩)
              | ((try dsimp only); exact ⟨(HB8.out.cell (p := ⟨b, off + k, none⟩) hbk).trans d0, (HB8.out.cell (p := ⟨b, off + l, none⟩) hbk).trans d1, HB8.out⟩)
              | go_keep)
            ((go_at_call 44; refine (HCg.out _ (Below.refl _ w6).drew).mono ?_; rintro e w8 ⟨rfl, hb8⟩; have HB8 := hide hb8))
          go_wp2_with fail
          go_ret
          exact ⟨rfl, HB6.out.trans (HB8.out.mono HB6.out.size)⟩
        · have hkk2 := hkk.out
          rw [show (((i + 1 : Nat) : Int) - 1) = (i : Int) by omega] at hkk2
          subst hkk2
          clear hkk
          have hil : i < ls.length := by omega
          obtain ⟨b, off, hAe, hbS, hrow⟩ := HR3.out (by omega)
          obtain ⟨cs, ⟨v5, rfl, A5, c5, rfl, h51, h52, h53⟩, hcs⟩ := hrow i hil
          have d0 : wr.cell? ⟨b, off + i, none⟩ = some (.slice A5 ls[i].length c5) := by
            have h := (hK.out.below.cell (p := ⟨b, off + i * (tSlice tInt).size + 0, none⟩) hbS).trans (hcs 0 _ rfl)
            simpa [tSlice] using h
          have HY := hide (show (tSlice tInt).rel w3 (Old w3) ls[i] [.slice A5 ls[i].length c5] from ⟨_, rfl, A5, c5, rfl, h51, h52, h53⟩)
          have HAe := hide hAe
          have HT := hide (show (ls.drop (i + 1)).reverse ++ [ls[i]] = (ls.drop i).reverse by rw [List.drop_eq_getElem_cons hil, List.reverse_cons])
          clear hrow hcs h51 h52 h53 hbS
          subst hAe
          go_wp2_with (at_builtin; refine wpList_put (tAt w3 (Old w3) (tSlice tInt)) rfl (.tmp 52) (.tmp 57) 56 rfl 23 i0 _ 24 Tryd.underlying56 hi hz0 hz1 hz2 rfl Nat.zero_lt_one (fun b => w3.heap.size ≤ b) (fun _ => False) (ls.drop (i + 1)).reverse ls[i] [.slice A5 ls[i].length c5] _ rfl hO.out _ rfl HY.out (fun _ h => h.elim) (fun b hb => Nat.le_trans hK.out.size hb) (by simp only [maxLen, List.length_reverse, List.length_drop]; omega) (by simp only [List.length_reverse, List.length_drop]; omega) ?_; intro v5 w5 hO_ hK_; have HO5 := hide hO_; have HK5 := hide (hK.out.trans hK_); clear hO_ hK_)
          rw [HT.out] at HO5
          go_roundw
          case rel => exact ⟨i, by omega, rfl, HO5.out, HK5.out⟩
          case measure => simp [intOf]
  · clear hA
    go_enter Tryd.func11, Tryd.ntmps11
    go_wp2_with fail
    go_ret
    exact ⟨rfl, Below.refl _ _⟩
end Go.Proofs.YtcfllpgppinofaaDoor
