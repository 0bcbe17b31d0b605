/- The law FnFindLinear: linear orders are right; and calls that can be put in order can be without their last read, too. -/
import Derived.Test.YtpcghfeiehdapaaDoorDrawFL
import Derived.Test.YtpcghfeiehdapaaDoorAlive
import Derived.Test.YtpcghfeiehdapaaDoorSame
import Derived.Test.YtpcghfeiehdapaaDoorLinF
import Derived.Test.YtpcghfeiehdapaaDoorFLinS
import Derived.Test.YtpcghfeiehdapaaDoorTabOf3
namespace Go.Proofs.YtpcghfeiehdapaaDoor
open Go.RowKit
set_option linter.unusedVariables false
set_option linter.unusedSimpArgs false

theorem Sl.oldNew {α : Type} {T : Ty α} {w w' : World} {xs : List α} {v : Value} (h : Sl T w' (New w w') xs v) : ∃ A c, v = .slice A xs.length c ∧ xs.length ≤ c ∧ Row T w' (Old w') A xs := by
  obtain ⟨A, c, rfl, hc, _, hr⟩ := h
  exact ⟨A, c, rfl, hc, hr.mono (fun b hb => hb.2) (fun _ _ => rfl)⟩
/-- The first k calls without the one at a place. -/
def lessK (xs : List Call) (last : Int) : Nat → List Call
  | 0 => []
  | k + 1 => lessK xs last k ++ (if (k : Int) = last then [] else [callAt xs k])
theorem lessK_len (xs : List Call) (last : Int) : ∀ k, (lessK xs last k).length ≤ k
  | 0 => Nat.le_refl _
  | k + 1 => by
    have := lessK_len xs last k
    rw [lessK, List.length_append]
    split <;> simp <;> omega
theorem lessK_none (xs : List Call) : ∀ k, k ≤ xs.length → lessK xs (-1) k = xs.take k
  | 0, _ => by simp [lessK]
  | k + 1, h => by
    rw [lessK, if_neg (by omega), lessK_none xs k (by omega), callAt_nat xs k (by omega), List.take_succ_eq_append_getElem (by omega : k < xs.length)]
theorem lessK_some (xs : List Call) (l : Nat) : ∀ k, k ≤ xs.length → lessK xs (l : Int) k = (xs.take k).eraseIdx l
  | 0, _ => by simp [lessK]
  | k + 1, h => by
    have hk : k < xs.length := by omega
    have hlt : (xs.take k).length = k := by rw [List.length_take]; omega
    rw [lessK, lessK_some xs l k (by omega), callAt_nat xs k hk, List.take_succ_eq_append_getElem hk]
    rcases Nat.lt_trichotomy l k with h1 | h1 | h1
    · rw [if_neg (by omega), List.eraseIdx_append_of_lt_length (by omega)]
    · subst h1
      rw [if_pos rfl, List.append_nil, List.eraseIdx_of_length_le (by omega), List.eraseIdx_append_of_length_le (by omega)]
      rw [hlt, Nat.sub_self]
      simp
    · rw [if_neg (by omega), List.eraseIdx_of_length_le (by omega), List.eraseIdx_of_length_le (by rw [List.length_append, hlt]; simp; omega)]
/-- What is known of the last read. -/
def LastR (xs : List Call) (last : Int) (k : Nat) : Prop := last = -1 ∨ ∃ l : Nat, l < k ∧ last = (l : Int) ∧ (callAt xs l).Kind = 1
theorem less_fine {xs : List Call} {last : Int} (hl : LastR xs last xs.length) (h : (flF xs).isSome = true) : (flF (lessK xs last xs.length)).isSome = true := by
  rcases hl with rfl | ⟨l, hl, rfl, hk⟩
  · rw [lessK_none xs _ (Nat.le_refl _), List.take_length]; exact h
  · rw [lessK_some xs l _ (Nat.le_refl _), List.take_length]
    refine fl_less xs l hl ?_ h
    rw [callAt_nat xs l hl] at hk
    rw [hk]; rfl
set_option maxRecDepth 10000 in
set_option maxHeartbeats 4000000 in
theorem lawFnFLin (bs : List Int) (A : Option Addr) (c : Nat) (w : World) (hm : bs.length ≤ maxLen) (hc : bs.length ≤ c) (hcm : c ≤ maxLen) (hA : Row tByte w (Old w) A bs) (hT : TabDB w) :
    Calls Tryd.prog 4 #[.slice A bs.length c] w fun e w' => e = .returned (.bool true) ∧ Below w.heap.size w w' := by
  have hq : bs.length ≤ 9223372036854775807 := by simpa [maxLen] using hm
  have HT := hide hT
  clear hT
  by_cases hl : bs.length ≤ 1048576
  · have HD := hide (drawFindLinear bs A c w hl hc hcm hA)
    clear hA
    go_enter Tryd.func4, Tryd.ntmps4
    go_wp2_with fail
    refine HD.out.mono ?_
    rintro e w1 ⟨xs, v, rfl, hx, ho, hb1⟩
    obtain ⟨A1, c1, rfl, hle, hcm1, hR1⟩ := ho.old
    have HR1 := hide hR1; have HB1 := hide hb1; clear ho hR1 hb1
    have hxm : xs.length ≤ maxLen := by simp only [maxLen]; omega
    go_wp2_with fail
    refine (implFindLinear xs A1 c1 w1 hxm HR1.out (HT.out.below HT.out.lt HB1.out) (Nat.lt_of_lt_of_le HT.out.lt HB1.out.size)).mono ?_
    rintro e w2 ⟨v2, rfl, hH2, hb2⟩
    obtain ⟨g2, hg2⟩ := hH2
    obtain ⟨A2, c2, rfl, _, hr2⟩ := hg2.sl.oldNew
    have HF2 := hide hr2
    have HR2 := hide (HR1.out.old hb2); have HB2 := hide (HB1.out.trans (hb2.mono HB1.out.size)); clear hb2 hg2 hr2
    go_wp2_with fail
    refine (specFindLinear xs A1 c1 w2 (by omega) HR2.out).mono ?_
    rintro e w3 ⟨v3, rfl, hS3, hb3⟩
    obtain ⟨A3, c3, rfl, _, hr3⟩ := hS3.oldNew
    have HF3 := hide hr3
    have HF2b := hide (HF2.out.old hb3)
    have HR3 := hide (HR2.out.old hb3); have HB3 := hide (HB2.out.trans (hb3.mono HB2.out.size)); clear hb3 hS3 hr3
    have hlen := flR_len xs
    have hlm : (flR xs).length ≤ maxLen := by simp only [maxLen]; omega
    go_wp2_with fail
    refine (sameInts_any (flR xs) (flR xs) A2 A3 c2 c3 w3 hlm hlm HF2b.out HF3.out).mono ?_
    rintro e w4 ⟨rfl, hb4⟩
    have HR4 := hide (HR3.out.old hb4); have HF4 := hide (HF2b.out.old hb4); have HB4 := hide (HB3.out.trans (hb4.mono HB3.out.size)); clear hb4
    rw [decide_eq_true (rfl : flR xs = flR xs)]
    have HAl := hide alive_any
    cases hfl : flF xs with
    | none =>
      have HBf := hide (show flB xs = false by unfold flB; rw [hfl]; rfl)
      rw [HBf.out]
      have HR0 := hide (show flR xs = [] by unfold flR; rw [hfl]; rfl)
      rw [HR0.out]
      clear hfl
      go_wp2_with (go_at_call 9; refine (HAl.out _).mono ?_; rintro e w7 ⟨rfl, hb7⟩; have HB7 := hide (HB4.out.trans (hb7.mono HB4.out.size)); clear hb7)
      go_ret
      exact ⟨rfl, HB7.out⟩
    | some o =>
      have HBf := hide (show flB xs = true by unfold flB; rw [hfl]; rfl)
      have HRo := hide (show flR xs = o by unfold flR; rw [hfl]; rfl)
      have HRt := hide (flF_right hfl)
      have hfs : (flF xs).isSome = true := by rw [hfl]; rfl
      have hol := sufL_len xs xs.length 0 0 o (by unfold flF at hfl; split at hfl; exact hfl; cases hfl)
      rw [HRo.out] at hlen hlm HF2 HF2b HF3 HF4 ⊢
      rw [HBf.out]
      clear hfl
      have HOl := hide hol
      clear hol
      have hqx : xs.length ≤ 9223372036854775807 := by omega
      have hqo : o.length ≤ 9223372036854775807 := by omega
      obtain ⟨i0, hi, hz0, hz1, hz2⟩ := info_parts infoCallD
      have HSo := hide hfs
      clear HR1 HR2 HR3 HF2 HF2b HF3 HB1 HB2 HB3 HBf HRo hlm hfs
      go_wp2_with fail
      obtain ⟨wz, hwz⟩ : ∃ wz, wz = w4.alloc (.cells #[] 37) := ⟨_, rfl⟩
      have HBz := hide (show Below w4.heap.size w4 wz by rw [hwz]; exact (Below.refl _ w4).alloc (Nat.le_refl _) _)
      have HO0 := hide (show Own tCall 37 wz (fun b => w4.heap.size ≤ b ∧ Old wz b) [] (.slice (some ⟨w4.heap.size, 0, none⟩) 0 0) by rw [hwz]; exact Own.empty (T := tCall) (e := 37) w4 (fun b => w4.heap.size ≤ b) (Nat.le_refl _))
      rw [← hwz]
      clear hwz
      go_loopw [9, 10] (fun la i wr => ∃ (k : Nat) (last : Int), k ≤ xs.length ∧ i = .int .i64 k ∧ la = .int .i64 last ∧ Hid (LastR xs last k) ∧ Hid (Below wz.heap.size wz wr)) (fun _ i _ => xs.length - (intOf i).toNat)
      case atStart => exact ⟨0, -1, Nat.zero_le _, rfl, rfl, .inl rfl, Below.refl _ _⟩
      case round =>
        obtain ⟨k, last, hk, rfl, rfl, hL, hb⟩ := hrel
        have HL := hide hL.out; have HBk := hide hb.out
        have HB4k := hide (HBz.out.trans (hb.out.mono HBz.out.size))
        clear hL hb
        by_cases hlt : k < xs.length
        · obtain ⟨b, off, hAe, hbS, g0, g1, g2, g3⟩ := at_Call HR4.out HB4k.out hlt
          subst hAe
          have HCk := hide (callAt_nat xs k hlt)
          cases hkd : (xs[k].Kind == 1) with
          | true =>
            have HG := hide (show LastR xs (k : Int) (k + 1) from .inr ⟨k, by omega, rfl, by rw [HCk.out]; exact beq_iff_eq.1 hkd⟩)
            go_wp2_with fail
            go_roundw
            case rel => exact ⟨k + 1, k, by omega, by go_num, rfl, HG.out, HBk.out⟩
            case measure => simp [intOf]; omega
          | false =>
            have HG := hide (show LastR xs last (k + 1) from by
              rcases HL.out with h | ⟨l, h1, h2, h3⟩
              · exact .inl h
              · exact .inr ⟨l, by omega, h2, h3⟩)
            go_wp2_with fail
            go_roundw
            case rel => exact ⟨k + 1, last, by omega, by go_num, rfl, HG.out, HBk.out⟩
            case measure => simp [intOf]; omega
        · obtain rfl : k = xs.length := by omega
          have HLs := hide (less_fine HL.out HSo.out)
          obtain ⟨wx, rfl⟩ : ∃ wx : World, wx = wr := ⟨wr, rfl⟩
          have HO1 := hide (HO0.out.onlyBelow HBk.out)
          clear HO0
          go_wp2_with fail
          go_loopw [8, 11] (fun v i wr => ∃ k : Nat, k ≤ xs.length ∧ i = .int .i64 k ∧ Hid (Own tCall 37 wr (fun b => w4.heap.size ≤ b ∧ Old wr b) (lessK xs last k) v) ∧ Hid (Below w4.heap.size w4 wr)) (fun _ i _ => xs.length - (intOf i).toNat)
          case atStart => exact ⟨0, Nat.zero_le _, rfl, HO1.out, HB4k.out⟩
          case round =>
            obtain ⟨l, hl2, rfl, hO, hb2⟩ := hrel
            have HO := hide hO.out; have HBl := hide hb2.out
            clear hO hb2 HO1
            by_cases hlt2 : l < xs.length
            · obtain ⟨b, off, hAe, _, g0, g1, g2, g3⟩ := at_Call HR4.out HBl.out hlt2
              subst hAe
              have HSc := hide (show lessK xs last (l + 1) = lessK xs last l ++ (if (l : Int) = last then [] else [xs[l]]) by rw [lessK, callAt_nat xs l hlt2])
              have hll := lessK_len xs last l
              generalize lessK xs last l = M at HO HSc hll
              by_cases hla : (l : Int) = last
              · have HG := hide (show lessK xs last (l + 1) = M by rw [HSc.out, if_pos hla, List.append_nil])
                have hne : ((l : Int) != last) = false := by rw [bne_eq_false_iff_eq]; exact hla
                clear hla HSc
                go_wp2_with fail
                go_roundw
                case rel => exact ⟨l + 1, by omega, by go_num, by rw [HG.out]; exact HO.out, HBl.out⟩
                case measure => simp [intOf]; omega
              · have HG := hide (show lessK xs last (l + 1) = M ++ [xs[l]] by rw [HSc.out, if_neg hla])
                have hne : ((l : Int) != last) = true := by rw [bne_iff_ne]; exact hla
                clear hla HSc
                generalize xs[l] = cl at g0 g1 g2 g3 HG
                obtain ⟨Kd, Vl, ⟨Fr, To⟩⟩ := cl
                dsimp only at g0 g1 g2 g3
                go_wp2_with (at_builtin; refine wpList_put tCall rfl (.tmp 69) (.tmp 74) 23 rfl 37 i0 _ 32 Tryd.underlying23 hi hz0 hz1 hz2 rfl (by decide) (fun b => w4.heap.size ≤ b) (fun _ => False) M ⟨Kd, Vl, ⟨Fr, To⟩⟩ _ _ rfl HO.out 1 rfl rfl (fun _ h => h.elim) (fun b hb => Nat.le_trans HBl.out.size hb) (by simp only [maxLen]; omega) (by omega) ?_; intro v8 w8 hO_ hK_; have HO8 := hide hO_; have HK8 := hide hK_; clear hO_ hK_)
                go_roundw
                case rel => exact ⟨l + 1, by omega, by go_num, by rw [HG.out]; exact HO8.out, below_only HBl.out HK8.out HBl.out.size (fun _ h => h)⟩
                case measure => simp [intOf]; omega
            · obtain rfl : l = xs.length := by omega
              have hll := lessK_len xs last xs.length
              have HBt := hide (show flB (lessK xs last xs.length) = true from HLs.out)
              obtain ⟨wy, rfl⟩ : ∃ wy : World, wy = wr := ⟨wr, rfl⟩
              have HB0 := hide (HB4.out.trans (HBl.out.mono HB4.out.size))
              obtain ⟨L, hL⟩ : ∃ L, L = lessK xs last xs.length := ⟨_, rfl⟩
              rw [← hL] at HO HBt hll
              clear hL
              obtain ⟨A5, c5, hv5, _, _, hr5⟩ := HO.out.oldRow
              subst hv5
              have HFl := hide (implFindLinear L A5 c5 wy (by simp only [maxLen]; omega) hr5 (HT.out.below HT.out.lt HB0.out) (Nat.lt_of_lt_of_le HT.out.lt HB0.out.size))
              rw [HBt.out] at HFl
              clear hr5
              generalize flR L = RL at HFl
              go_wp2_with fail
              refine HFl.out.mono ?_
              rintro e w6 ⟨v6, rfl, _, hb6⟩
              have HB6 := hide (HB0.out.trans (hb6.mono HB0.out.size))
              have HB46 := hide (HBl.out.trans (hb6.mono HBl.out.size))
              clear hb6
              have HLr := hide (implLinearRight xs o A1 A2 c1 c2 w6 hxm (by omega) (HR4.out.old HB46.out) (HF4.out.old HB46.out) (HT.out.below HT.out.lt HB6.out) (Nat.lt_of_lt_of_le HT.out.lt HB6.out.size))
              rw [HRt.out] at HLr
              go_wp2_with (go_at_call 7; refine HLr.out.mono ?_; rintro e w7 ⟨rfl, hb7⟩; have HB7 := hide (HB6.out.trans (hb7.mono HB6.out.size)); clear hb7)
              go_ret
              exact ⟨rfl, HB7.out⟩
  · clear hA
    go_enter Tryd.func4, Tryd.ntmps4
    go_wp2_with fail
    go_ret
    exact ⟨rfl, Below.refl _ _⟩
end Go.Proofs.YtpcghfeiehdapaaDoor
