/- The law FnCycleOf: cycles are cycles. -/
import Derived.Test.YtnlicjgegclilaaDoorDrawCO
import Derived.Test.YtnlicjgegclilaaDoorCycI
import Derived.Test.YtnlicjgegclilaaDoorTopI
import Derived.Test.YtnlicjgegclilaaDoorCycle
import Derived.Test.YtnlicjgegclilaaDoorCycImpl
import Derived.Test.YtnlicjgegclilaaDoorAlive
import Derived.Test.YtnlicjgegclilaaDoorSame
namespace Go.Proofs.YtnlicjgegclilaaDoor
open Go.RowKit
set_option linter.unusedVariables false
set_option linter.unusedSimpArgs false

theorem HoldI.oldC {w w' : World} {xs : List Int} {v : Value} (h : HoldI w' (New w w') xs v) : ∃ A c, v = .slice A xs.length c ∧ xs.length ≤ c ∧ c ≤ maxLen ∧ Row tInt w' (Old w') A xs := h.sl.mono (S' := Old w') (fun _ hb => hb.2) (fun _ _ => rfl)
theorem Own.oldC {w w' : World} {xs : List Int} {v : Value} (h : Own tInt 3 w' (New w w') xs v) : ∃ A c, v = .slice A xs.length c ∧ xs.length ≤ c ∧ c ≤ maxLen ∧ Row tInt w' (Old w') A xs := h.old
theorem Sl.oldE2 {α : Type} {T : Ty α} {w' : World} {xs : List α} {v : Value} (h : Sl T w' (Old w') xs v) : ∃ A c, v = .slice A xs.length c ∧ xs.length ≤ c ∧ c ≤ maxLen ∧ Row T w' (Old w') A xs := h
set_option maxRecDepth 10000 in
set_option maxHeartbeats 4000000 in
theorem lawFnCycO (bs : List Int) (A : Option Addr) (c : Nat) (w : World) (hm : bs.length ≤ maxLen) (hc : bs.length ≤ c) (hcm : c ≤ maxLen) (hA : Row tByte w (Old w) A bs) :
    Calls Tryd.prog 4 #[.slice A bs.length c] w fun e w' => e = .returned (.bool true) ∧ Below w.heap.size w w' := by
  have hq : bs.length ≤ 9223372036854775807 := by simpa [maxLen] using hm
  by_cases hl : bs.length ≤ 1048576
  · have HD := hide (drawCycleOf bs A c w hl hc hcm hA)
    clear hA
    go_enter Tryd.func4, Tryd.ntmps4
    go_wp2_with fail
    refine HD.out.mono ?_
    rintro e w1 ⟨a, xs, v, rfl, hx9, ho, hb1⟩
    have HB1 := hide hb1
    clear hb1 HD
    obtain ⟨Ax, cx, rfl, hlex, hcmx, hrx⟩ := ho.oldE2
    have Hx1 := hide hrx
    clear hrx ho
    have hxm : xs.length ≤ maxLen := by simp only [maxLen]; omega
    have hnl := cycO_len a xs
    have hnm : (cycO a xs).length ≤ maxLen := by simp only [maxLen]; omega
    go_wp2_with fail
    refine (implCycleOf a xs _ _ w1 hxm Hx1.out).mono ?_
    rintro e w2 ⟨vy, rfl, hoy, hb⟩
    have Hx2 := hide (Hx1.out.old hb)
    have HB2 := hide (HB1.out.trans (hb.mono HB1.out.size))
    clear hb HB1 Hx1
    obtain ⟨Ay, cy, rfl, hley, hcmy, hry⟩ := hoy.oldC
    have Hy2 := hide hry
    clear hry hoy
    go_wp2_with fail
    refine (specCycleOf a xs _ _ w2 hxm Hx2.out).mono ?_
    rintro e w3 ⟨vz, rfl, hoz, hb⟩
    have Hx3 := hide (Hx2.out.old hb)
    have Hy3 := hide (Hy2.out.old hb)
    have HB3 := hide (HB2.out.trans (hb.mono HB2.out.size))
    clear hb HB2 Hx2 Hy2
    obtain ⟨Az, cz, rfl, hlez, hcmz, hrz⟩ := hoz.oldC
    have Hz3 := hide hrz
    clear hrz hoz
    go_wp2_with fail
    refine (sameInts_any (cycO a xs) (cycO a xs) _ _ _ _ w3 hnm hnm Hy3.out Hz3.out).mono ?_
    rintro e w4 ⟨rfl, hb⟩
    rw [show decide (cycO a xs = cycO a xs) = true from decide_eq_true rfl]
    have Hx4 := hide (Hx3.out.old hb)
    have Hy4 := hide (Hy3.out.old hb)
    have Hz4 := hide (Hz3.out.old hb)
    have HB4 := hide (HB3.out.trans (hb.mono HB3.out.size))
    clear hb HB3 Hx3 Hy3 Hz3
    go_wp2_with fail
    refine (specEdgesValid a xs _ _ w4 hxm Hx4.out).mono ?_
    rintro e w5 ⟨rfl, hb⟩
    have Hx5 := hide (Hx4.out.old hb)
    have Hy5 := hide (Hy4.out.old hb)
    have Hz5 := hide (Hz4.out.old hb)
    have HB5 := hide (HB4.out.trans (hb.mono HB4.out.size))
    clear hb HB4 Hx4 Hy4 Hz4
    cases hv : edgesV a xs with
    | false =>
      have hz : (cycO a xs) = [] := by unfold cycO; rw [hv]; rfl
      have hz0 : (cycO a xs).length = 0 := by rw [hz]; rfl
      clear hz hv
      go_wp2_with fail
      refine (alive_any _).mono ?_
      rintro e w6 ⟨rfl, hb⟩
      have Hx6 := hide (Hx5.out.old hb)
      have Hy6 := hide (Hy5.out.old hb)
      have Hz6 := hide (Hz5.out.old hb)
      have HB6 := hide (HB5.out.trans (hb.mono HB5.out.size))
      clear hb HB5 Hx5 Hy5 Hz5
      go_wp2_with fail
      go_ret
      exact ⟨rfl, HB6.out⟩
    | true =>
      have HG := hide (cycO_good a xs hv)
      have HT := hide (show (topR a xs).isSome = (topD (edgE xs) a.toNat a.toNat).isSome by unfold topR; rw [hv]; rfl)
      clear hv
      go_wp2_with fail
      refine (implTopOrder a xs _ _ w5 hxm Hx5.out).mono ?_
      rintro e w6 ⟨vt, rfl, hot, hb⟩
      clear hot
      have Hx6 := hide (Hx5.out.old hb)
      have Hy6 := hide (Hy5.out.old hb)
      have Hz6 := hide (Hz5.out.old hb)
      have HB6 := hide (HB5.out.trans (hb.mono HB5.out.size))
      clear hb HB5 Hx5 Hy5 Hz5
      rw [HT.out]
      generalize (topD (edgE xs) a.toNat a.toNat).isSome = tb at HG
      clear HT
      rcases HG.out with ⟨h1, rfl⟩ | ⟨h1, rfl, h2, h3⟩
      · 
        have hz0 : (cycO a xs).length = 0 := by rw [h1]; rfl
        clear h1 HG
        go_wp2_with fail
        go_loopw [8] (fun k wr => k = .int .i64 1 ∧ Hid (Below w.heap.size w wr)) (fun _ _ => 0)
        case atStart => exact ⟨rfl, HB6.out⟩
        case round =>
          obtain ⟨rfl, hb⟩ := hrel
          have HBr := hide hb.out
          clear hb
          go_wp2_with fail
          go_ret
          exact ⟨rfl, HBr.out⟩
      · 
        have hz0 : 0 < (cycO a xs).length := List.length_pos_iff.2 h1
        have hz1 : (((cycO a xs).length : Int) == 0) = false := by rw [beq_eq_false_iff_ne]; omega
        have H2 := hide h2
        have H3 := hide h3
        clear h1 h2 h3 HG
        generalize cycO a xs = ns at H2 H3 hz0 hz1 hnm hnl Hy6 hley ⊢
        clear Hz6
        go_wp2_with fail
        go_loopw [8] (fun k wr => ∃ kk : Nat, 1 ≤ kk ∧ k = .int .i64 kk ∧ Hid (Below w6.heap.size w6 wr)) (fun k _ => ns.length - (intOf k).toNat)
        case atStart => exact ⟨1, Nat.le_refl _, rfl, Below.refl _ _⟩
        case round =>
          obtain ⟨kk, hkk, rfl, hb⟩ := hrel
          have HBr := hide hb.out
          clear hb
          by_cases hlt : kk < ns.length
          · have hki : (kk : Int) < (ns.length : Int) := by omega
            obtain ⟨b, off, hAe, _, c0⟩ := at_Int Hy6.out HBr.out hlt
            obtain ⟨b', off', hAe', _, c1⟩ := at_Int Hy6.out HBr.out hz0
            subst hAe
            obtain ⟨rfl, rfl⟩ : b = b' ∧ off = off' := by simpa using hAe'
            have hle := H3.out kk hkk hlt
            rw [List.getD_eq_getElem?_getD, List.getD_eq_getElem?_getD, List.getElem?_eq_getElem hz0, List.getElem?_eq_getElem hlt] at hle
            simp only [Option.getD_some] at hle
            rw [Nat.add_zero] at c1
            generalize ns[kk] = y1 at c0 hle
            generalize ns[0] = y0 at c1 hle
            have hle2 : ¬ y1 ≤ y0 := by omega
            have hkk0 : (0 : Int) ≤ (kk : Int) := by omega
            have hz2 : (0 : Int) < (ns.length : Int) := by omega
            clear hAe' hle
            go_wp2_with fail
            go_quiet (fail)
            go_wp2
            go_roundw
            case rel => exact ⟨kk + 1, by omega, by go_num, below_drewN HBr.out _⟩
            case measure => simp [intOf]; omega
          · have hkn : ¬ (kk : Int) < (ns.length : Int) := by omega
            have HX9 := hide (Hx6.out.old HBr.out)
            have HY9 := hide (Hy6.out.old HBr.out)
            have HB9 := hide (HB6.out.trans (HBr.out.mono HB6.out.size))
            go_wp2_with fail
            refine (implCycleRight a xs ns _ _ _ _ _ hxm hnm HX9.out HY9.out).mono ?_
            rintro e w9 ⟨rfl, hb⟩
            rw [H2.out]
            have HB10 := hide (HB9.out.trans (hb.mono HB9.out.size))
            go_wp2_with fail
            go_ret
            exact ⟨rfl, HB10.out⟩
  · clear hA
    go_enter Tryd.func4, Tryd.ntmps4
    go_wp2_with fail
    go_ret
    exact ⟨rfl, Below.refl _ _⟩
end Go.Proofs.YtnlicjgegclilaaDoor
