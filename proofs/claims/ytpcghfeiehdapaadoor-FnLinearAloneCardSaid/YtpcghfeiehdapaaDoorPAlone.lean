/- The law FnLinearAlone: calls one after the other are put in their own order. -/
import Derived.Test.YtpcghfeiehdapaaDoorDrawFL
import Derived.Test.YtpcghfeiehdapaaDoorAlive
import Derived.Test.YtpcghfeiehdapaaDoorSame
import Derived.Test.YtpcghfeiehdapaaDoorLinA
import Derived.Test.YtpcghfeiehdapaaDoorFLinS
import Derived.Test.YtpcghfeiehdapaaDoorTabOf3
namespace Go.Proofs.YtpcghfeiehdapaaDoor
open Go.RowKit
set_option linter.unusedVariables false
set_option linter.unusedSimpArgs false

theorem Sl.oldNew {α : Type} {T : Ty α} {w w' : World} {xs : List α} {v : Value} (h : Sl T w' (New w w') xs v) : ∃ A c, v = .slice A xs.length c ∧ xs.length ≤ c ∧ Row T w' (Old w') A xs := by
  obtain ⟨A, c, rfl, hc, _, hr⟩ := h
  exact ⟨A, c, rfl, hc, hr.mono (fun b hb => hb.2) (fun _ _ => rfl)⟩
set_option maxRecDepth 10000 in
set_option maxHeartbeats 4000000 in
theorem lawFnAlone (bs : List Int) (A : Option Addr) (c : Nat) (w : World) (hm : bs.length ≤ maxLen) (hc : bs.length ≤ c) (hcm : c ≤ maxLen) (hA : Row tByte w (Old w) A bs) (hT : TabDB w) :
    Calls Tryd.prog 5 #[.slice A bs.length c] w fun e w' => e = .returned (.bool true) ∧ Below w.heap.size w w' := by
  have hq : bs.length ≤ 9223372036854775807 := by simpa [maxLen] using hm
  have HT := hide hT
  clear hT
  by_cases hl : bs.length ≤ 1048576
  · have HD := hide (drawFindLinear bs A c w hl hc hcm hA)
    clear hA
    go_enter Tryd.func5, Tryd.ntmps5
    go_wp2_with fail
    refine HD.out.mono ?_
    rintro e w1 ⟨xs, v, rfl, hx, ho, hb1⟩
    obtain ⟨A1, c1, rfl, hle, hcm1, hR1⟩ := ho.old
    have HR1 := hide hR1; have HB1 := hide hb1; clear ho hR1 hb1
    have hxm : xs.length ≤ maxLen := by simp only [maxLen]; omega
    go_wp2_with fail
    refine (implFindLinear xs A1 c1 w1 hxm HR1.out (HT.out.below HT.out.lt HB1.out) (Nat.lt_of_lt_of_le HT.out.lt HB1.out.size)).mono ?_
    rintro e w2 ⟨v2, rfl, hH2, hb2⟩
    obtain ⟨g2, hg2⟩ := hH2
    obtain ⟨A2, c2, rfl, _, hr2⟩ := hg2.sl.oldNew
    have HF2 := hide hr2
    have HR2 := hide (HR1.out.old hb2); have HB2 := hide (HB1.out.trans (hb2.mono HB1.out.size)); clear hb2 hg2 hr2
    go_wp2_with fail
    refine (specFindLinear xs A1 c1 w2 (by omega) HR2.out).mono ?_
    rintro e w3 ⟨v3, rfl, hS3, hb3⟩
    obtain ⟨A3, c3, rfl, _, hr3⟩ := hS3.oldNew
    have HF3 := hide hr3
    have HF2b := hide (HF2.out.old hb3)
    have HR3 := hide (HR2.out.old hb3); have HB3 := hide (HB2.out.trans (hb3.mono HB2.out.size)); clear hb3 hS3 hr3
    have hlen := flR_len xs
    have hlm : (flR xs).length ≤ maxLen := by simp only [maxLen]; omega
    go_wp2_with fail
    refine (sameInts_any (flR xs) (flR xs) A2 A3 c2 c3 w3 hlm hlm HF2b.out HF3.out).mono ?_
    rintro e w4 ⟨rfl, hb4⟩
    have HR4 := hide (HR3.out.old hb4); have HF4 := hide (HF2b.out.old hb4); have HB4 := hide (HB3.out.trans (hb4.mono HB3.out.size)); clear hb4
    rw [decide_eq_true (rfl : flR xs = flR xs)]
    have HAl := hide alive_any
    cases hfl : flF xs with
    | none =>
      have HBf := hide (show flB xs = false by unfold flB; rw [hfl]; rfl)
      rw [HBf.out]
      generalize flR xs = R at hlen hlm HF2 HF2b HF3 HF4 ⊢
      clear hfl
      go_wp2_with (go_at_call 9; refine (HAl.out _).mono ?_; rintro e w7 ⟨rfl, hb7⟩; have HB7 := hide (HB4.out.trans (hb7.mono HB4.out.size)); clear hb7)
      go_ret
      exact ⟨rfl, HB7.out⟩
    | some o =>
      have HBf := hide (show flB xs = true by unfold flB; rw [hfl]; rfl)
      have HRo := hide (show flR xs = o by unfold flR; rw [hfl]; rfl)
      have HRt := hide (flF_right hfl)
      have hol := sufL_len xs xs.length 0 0 o (by unfold flF at hfl; split at hfl; exact hfl; cases hfl)
      rw [HRo.out] at hlen hlm HF2 HF2b HF3 HF4 ⊢
      rw [HBf.out]
      clear hfl
      have HOl := hide hol
      have hqx : xs.length ≤ 9223372036854775807 := by omega
      have hqo : o.length ≤ 9223372036854775807 := by omega
      clear HR1 HR2 HR3 HF2 HF2b HF3 HB1 HB2 HB3 HBf HRo hlm
      go_wp2_with fail
      go_loopw [8] (fun i wr => ∃ k : Nat, 1 ≤ k ∧ k ≤ xs.length + 1 ∧ i = .int .i64 k ∧ Hid (aloneB xs k) ∧ Hid (Below w4.heap.size w4 wr)) (fun i _ => xs.length - (intOf i).toNat)
      case atStart => exact ⟨1, Nat.le_refl _, by omega, rfl, (fun j h1 h2 => absurd h1 (by omega)), Below.refl _ _⟩
      case round =>
        obtain ⟨k, hk1, hk2, rfl, hAl, hb⟩ := hrel
        have HAo := hide hAl.out; have HBk := hide hb.out
        have HBw := hide (HB4.out.trans (hb.out.mono HB4.out.size))
        clear hAl hb
        by_cases hlt : k < xs.length
        · obtain ⟨j, hj⟩ : ∃ j : Nat, (k : Int) - 1 = (j : Int) := ⟨k - 1, by omega⟩
          have hjl : j < xs.length := by omega
          have hsub : IntKind.i64.wrap ((k : Int) - 1) = (j : Int) := by rw [IntKind.wrap_i64]; omega
          obtain ⟨b, off, hAe, hbS, g0, g1, g2, g3⟩ := at_Call HR4.out HBk.out hjl
          subst hAe
          obtain ⟨b', off', hAe, _, e0, e1, e2, e3⟩ := at_Call HR4.out HBk.out hlt
          obtain ⟨rfl, rfl⟩ : b = b' ∧ off = off' := by simpa using hAe
          have HNx := hide (show decide (xs[j].When.To ≥ xs[k].When.From) = false → aloneB xs (k + 1) from fun h m h1 h2 => by
            by_cases hmk : m < k
            · exact HAo.out m h1 hmk
            · obtain rfl : m = k := by omega
              rw [hj, callAt_nat xs j hjl, callAt_nat xs m hlt]
              have := of_decide_eq_false h
              omega)
          clear hAe hj g0 g1 g2 e0 e1 e3 hbS
          cases hd : decide (xs[j].When.To ≥ xs[k].When.From) with
          | true =>
            clear HNx
            go_wp2_with fail
            go_quiet (fail)
            go_wp2_with fail
            go_ret
            exact ⟨rfl, below_drewN HBw.out _⟩
          | false =>
            have HG := hide (HNx.out hd)
            clear HNx
            go_wp2_with fail
            go_quiet (fail)
            go_wp2_with fail
            go_roundw
            case rel => exact ⟨k + 1, by omega, by omega, by go_num, HG.out, below_drewN HBk.out _⟩
            case measure => simp [intOf]; omega
        · have HAll := hide (show aloneB xs xs.length from fun m h1 h2 => HAo.out m h1 (by omega))
          have HOn := hide (alone_order HRt.out HAll.out)
          have HFx := hide (HF4.out.old HBk.out)
          obtain ⟨wx, rfl⟩ : ∃ wx : World, wx = wr := ⟨wr, rfl⟩
          have hkd : decide ((k : Int) < (xs.length : Int)) = false := decide_eq_false (by omega)
          go_wp2_with fail
          go_loopw [9] (fun i wr => ∃ k : Nat, k ≤ o.length ∧ i = .int .i64 k ∧ Hid (Below wx.heap.size wx wr)) (fun i _ => o.length - (intOf i).toNat)
          case atStart => exact ⟨0, Nat.zero_le _, rfl, Below.refl _ _⟩
          case round =>
            obtain ⟨l, hl2, rfl, hb2⟩ := hrel
            have HBl := hide hb2.out
            clear hb2
            by_cases hlt2 : l < o.length
            · obtain ⟨b, off, hAe, _, c0⟩ := at_Int HFx.out HBl.out hlt2
              subst hAe
              rw [show o[l] = (l : Int) from (List.getElem_of_eq HOn.out hlt2).trans (nums_get _)] at c0
              go_wp2_with fail
              go_roundw
              case rel => exact ⟨l + 1, by omega, by go_num, HBl.out⟩
              case measure => simp [intOf]; omega
            · obtain rfl : l = o.length := by omega
              go_wp2_with fail
              go_ret
              exact ⟨rfl, HBw.out.trans (HBl.out.mono HBw.out.size)⟩
  · clear hA
    go_enter Tryd.func5, Tryd.ntmps5
    go_wp2_with fail
    go_ret
    exact ⟨rfl, Below.refl _ _⟩
end Go.Proofs.YtpcghfeiehdapaaDoor
