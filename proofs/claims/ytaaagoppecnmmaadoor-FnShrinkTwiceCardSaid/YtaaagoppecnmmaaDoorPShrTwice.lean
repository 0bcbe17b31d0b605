/- The law FnShrinkTwice: to shrink a shrunk history leaves it. -/
import Derived.Test.YtaaagoppecnmmaaDoorHKit
import Derived.Test.YtaaagoppecnmmaaDoorSameH
import Derived.Test.YtaaagoppecnmmaaDoorShrI
import Derived.Test.YtaaagoppecnmmaaDoorShrS
namespace Go.Proofs.YtaaagoppecnmmaaDoor
open Go.RowKit
set_option linter.unusedVariables false
set_option linter.unusedSimpArgs false

set_option maxRecDepth 10000 in
set_option maxHeartbeats 4000000 in
theorem lawFnShrTwice (bs : List Int) (A : Option Addr) (c : Nat) (w : World) (hm : bs.length ≤ maxLen) (hc : bs.length ≤ c) (hcm : c ≤ maxLen) (hA : Row tByte w (Old w) A bs) :
    Calls Tryd.prog 5 #[.slice A bs.length c] w fun e w' => e = .returned (.bool true) ∧ Below w.heap.size w w' := by
  have hq : bs.length ≤ 9223372036854775807 := by simpa [maxLen] using hm
  by_cases hl : bs.length ≤ 1048576
  · have HD := hide (drawShrinkBad bs A c w hl hc hcm hA)
    clear hA
    go_enter Tryd.func5, Tryd.ntmps5
    go_wp2_with fail
    refine HD.out.mono ?_
    rintro e w1 ⟨xs, v, rfl, hS, ho, hb1⟩
    have HB1 := hide hb1
    clear hb1 HD
    obtain ⟨Ax, cx, rfl, hlex, hcmx, hrx⟩ := ho.oldE
    have Hx1 := hide hrx
    clear hrx ho
    obtain ⟨hxm, hx20, hxo, hxn⟩ := hS.le
    go_wp2_with fail
    refine (implShrinkBad xs _ _ w1 hxm Hx1.out).mono ?_
    rintro e w2 ⟨v2, rfl, hT2, hb⟩
    have Hx2 := hide (Hx1.out.old hb)
    have HB2 := hide (HB1.out.trans (hb.mono HB1.out.size))
    clear hb HB1 Hx1
    obtain ⟨Ay, cy, rfl, hley, hcmy, hry⟩ := hT2.sl.fresh
    have Hy2 := hide hry
    clear hry hT2
    go_wp2_with fail
    refine (specShrinkBad xs _ _ w2 hxm hxo Hx2.out).mono ?_
    rintro e w3 ⟨v3, rfl, hT3, hb⟩
    have Hx3 := hide (Hx2.out.old hb)
    have Hy3 := hide (Hy2.out.old hb)
    have HB3 := hide (HB2.out.trans (hb.mono HB2.out.size))
    clear hb HB2 Hx2 Hy2
    obtain ⟨Az, cz, rfl, hlez, hcmz, hrz⟩ := hT3.fresh
    have Hz3 := hide hrz
    clear hrz hT3
    have HBl := hide (badR_len xs)
    have hbm : (badR xs).length ≤ maxLen := by have := HBl.out.1; simp only [maxLen]; omega
    go_wp2_with fail
    refine (sameHistory_any (badR xs) _ _ _ _ w3 hbm (fun t ht => by have := HBl.out.2 t ht; simp only [maxLen]; omega) Hy3.out Hz3.out).mono ?_
    rintro e w4 ⟨rfl, hb⟩
    have Hx4 := hide (Hx3.out.old hb)
    have Hy4 := hide (Hy3.out.old hb)
    have Hz4 := hide (Hz3.out.old hb)
    have HB4 := hide (HB3.out.trans (hb.mono HB3.out.size))
    clear hb HB3 Hx3 Hy3 Hz3
    cases hbb : badB xs with
    | false =>
      generalize badR xs = br at HBl hbm Hy4 Hz4 ⊢
      go_wp2_with fail
      refine (alive_any _).mono ?_
      rintro e w5 ⟨rfl, hb⟩
      have Hx5 := hide (Hx4.out.old hb)
      have Hy5 := hide (Hy4.out.old hb)
      have Hz5 := hide (Hz4.out.old hb)
      have HB5 := hide (HB4.out.trans (hb.mono HB4.out.size))
      clear hb HB4 Hx4 Hy4 Hz4
      go_wp2_with fail
      go_ret
      exact ⟨rfl, HB5.out⟩
    | true =>
      obtain ⟨hv1, hv2, hv3, hv4, hv5, hv6, hv7⟩ := bad_facts hbb
      have HV6 := hide hv6; have HV7 := hide hv7
      clear hv1 hv2 hv3 hv4 hv5 hv6 hv7 hbb
      generalize badR xs = br at HBl hbm HV6 HV7 Hy4 Hz4 ⊢
      go_wp2_with fail
      refine (implShrinkBad br _ _ w4 hbm Hy4.out).mono ?_
      rintro e w5 ⟨v5, rfl, hT5, hb⟩
      rw [HV7.out] at hT5
      rw [HV6.out]
      have Hx5 := hide (Hx4.out.old hb)
      have Hy5 := hide (Hy4.out.old hb)
      have Hz5 := hide (Hz4.out.old hb)
      have HB5 := hide (HB4.out.trans (hb.mono HB4.out.size))
      clear hb HB4 Hx4 Hy4 Hz4
      obtain ⟨Au, cu, rfl, hleu, hcmu, hru⟩ := hT5.sl.fresh
      have Hu5 := hide hru
      clear hru hT5
      go_wp2_with fail
      refine (sameHistory_any br _ _ _ _ w5 hbm (fun t ht => by have := HBl.out.2 t ht; simp only [maxLen]; omega) Hu5.out Hy5.out).mono ?_
      rintro e w6 ⟨rfl, hb⟩
      have Hx6 := hide (Hx5.out.old hb)
      have Hy6 := hide (Hy5.out.old hb)
      have Hz6 := hide (Hz5.out.old hb)
      have Hu6 := hide (Hu5.out.old hb)
      have HB6 := hide (HB5.out.trans (hb.mono HB5.out.size))
      clear hb HB5 Hx5 Hy5 Hz5 Hu5
      go_wp2_with fail
      go_ret
      exact ⟨rfl, HB6.out⟩
  · clear hA
    go_enter Tryd.func5, Tryd.ntmps5
    go_wp2_with fail
    go_ret
    exact ⟨rfl, Below.refl _ _⟩
end Go.Proofs.YtaaagoppecnmmaaDoor
