/- The law FnCommitOrders: commits make orders of values. -/
import Derived.Test.YtkcobaimcfggjaaGreatDoorDrawSR
import Derived.Test.YtkcobaimcfggjaaGreatDoorSameL
import Derived.Test.YtkcobaimcfggjaaGreatDoorComI
import Derived.Test.YtkcobaimcfggjaaGreatDoorSnapS
import Derived.Test.YtkcobaimcfggjaaGreatDoorSnapLv
import Derived.Test.YtkcobaimcfggjaaGreatDoorLevI
namespace Go.Proofs.YtkcobaimcfggjaaGreatDoor
open Go.RowKit
set_option linter.unusedVariables false
set_option linter.unusedSimpArgs false

theorem comR_no {h : List Txn} {p : List Int} (hs : srB h p = false) : comR h p = [] := by
  unfold comR; rw [hs]; rfl
set_option maxRecDepth 10000 in
set_option maxHeartbeats 4000000 in
theorem lawFnCom (bs : List Int) (A : Option Addr) (c : Nat) (w : World) (hm : bs.length ≤ maxLen) (hc : bs.length ≤ c) (hcm : c ≤ maxLen) (hA : Row tByte w (Old w) A bs) :
    Calls Tryz.prog 6 #[.slice A bs.length c] w fun e w' => e = .returned (.bool true) ∧ Below w.heap.size w w' := by
  have hq : bs.length ≤ 9223372036854775807 := by simpa [maxLen] using hm
  by_cases hl : bs.length ≤ 1048576
  · have HD := hide (drawCommitOrders bs A c w hl hc hcm hA)
    clear hA
    go_enter Tryz.func6, Tryz.ntmps6
    go_wp2_with fail
    refine HD.out.mono ?_
    rintro e w1 ⟨xs, o, v, u, rfl, hS, hol, ho, hu, hb1⟩
    have HB1 := hide hb1
    clear hb1 HD
    obtain ⟨Ax, cx, rfl, hlex, hcmx, hrx⟩ := ho.oldE
    have Hx1 := hide hrx
    clear hrx ho
    obtain ⟨As, cs, rfl, hles, hcms, hrs⟩ := hu.oldE
    have Hs1 := hide hrs
    clear hrs hu
    obtain ⟨hxm, hx20, hxo, hxn⟩ := hS.le
    have hom : o.length ≤ 1048576 := by omega
    go_wp2_with fail
    refine (implCommitOrders xs o _ _ _ _ w1 hxm hom hles Hx1.out Hs1.out).mono ?_
    rintro e w2 ⟨v2, rfl, hT2, hb⟩
    have Hx2 := hide (Hx1.out.old hb)
    have Hs2 := hide (Hs1.out.old hb)
    have HB2 := hide (HB1.out.trans (hb.mono HB1.out.size))
    clear hb HB1 Hx1 Hs1
    obtain ⟨Ay, cy, rfl, hley, hcmy, hry⟩ := hT2.sl.fresh
    have Hy2 := hide hry
    clear hry hT2
    go_wp2_with fail
    refine (specCommitOrders xs o _ _ _ _ w2 hx20 hxn hxo hom hles hcms Hx2.out Hs2.out).mono ?_
    rintro e w3 ⟨v3, rfl, hT3, hb⟩
    have Hx3 := hide (Hx2.out.old hb)
    have Hs3 := hide (Hs2.out.old hb)
    have Hy3 := hide (Hy2.out.old hb)
    have HB3 := hide (HB2.out.trans (hb.mono HB2.out.size))
    clear hb HB2 Hx2 Hs2 Hy2
    obtain ⟨Az, cz, rfl, hlez, hcmz, hrz⟩ := hT3.fresh
    have Hz3 := hide hrz
    clear hrz hT3
    have HCl := hide (comR_len xs o)
    go_wp2_with fail
    refine (sameLists_any (comR xs o) _ _ _ _ w3 (by have := HCl.out.1; simp only [maxLen]; omega) (fun x hx => by have := HCl.out.2 x hx; simp only [maxLen]; omega) Hy3.out Hz3.out).mono ?_
    rintro e w4 ⟨rfl, hb⟩
    have Hx4 := hide (Hx3.out.old hb)
    have Hs4 := hide (Hs3.out.old hb)
    have Hy4 := hide (Hy3.out.old hb)
    have Hz4 := hide (Hz3.out.old hb)
    have HB4 := hide (HB3.out.trans (hb.mono HB3.out.size))
    clear hb HB3 Hx3 Hs3 Hy3 Hz3
    go_wp2_with fail
    refine (specSnapshotRight xs o _ _ _ _ w4 hxm hxo hom hles hcms Hx4.out Hs4.out).mono ?_
    rintro e w5 ⟨rfl, hb⟩
    have Hx5 := hide (Hx4.out.old hb)
    have Hs5 := hide (Hs4.out.old hb)
    have Hy5 := hide (Hy4.out.old hb)
    have Hz5 := hide (Hz4.out.old hb)
    have HB5 := hide (HB4.out.trans (hb.mono HB4.out.size))
    clear hb HB4 Hx4 Hs4 Hy4 Hz4
    cases hsr : srB xs o with
    | false =>
      have HN := hide (comR_no hsr)
      rw [HN.out]
      clear hsr
      go_wp2_with fail
      refine (alive_any _).mono ?_
      rintro e w6 ⟨rfl, hb⟩
      have Hx6 := hide (Hx5.out.old hb)
      have Hs6 := hide (Hs5.out.old hb)
      have Hy6 := hide (Hy5.out.old hb)
      have Hz6 := hide (Hz5.out.old hb)
      have HB6 := hide (HB5.out.trans (hb.mono HB5.out.size))
      clear hb HB5 Hx5 Hs5 Hy5 Hz5
      go_wp2_with fail
      go_ret
      exact ⟨rfl, HB6.out⟩
    | true =>
      have HO1 := hide (snap_ord hsr)
      have HL1 := hide (snap_level hsr)
      clear hsr
      generalize comR xs o = cr at HCl HO1 HL1 Hy5 Hz5 ⊢
      go_wp2_with fail
      refine (implOrdersValid xs cr _ _ _ _ w5 hxm HCl.out.1 HCl.out.2 Hx5.out Hy5.out).mono ?_
      rintro e w6 ⟨rfl, hb⟩
      rw [HO1.out]
      have Hx6 := hide (Hx5.out.old hb)
      have Hs6 := hide (Hs5.out.old hb)
      have Hy6 := hide (Hy5.out.old hb)
      have Hz6 := hide (Hz5.out.old hb)
      have HB6 := hide (HB5.out.trans (hb.mono HB5.out.size))
      clear hb HB5 Hx5 Hs5 Hy5 Hz5
      go_wp2_with fail
      refine (implLevelAllows xs cr 3 _ _ _ _ w6 hxm HCl.out.1 HCl.out.2 Hx6.out Hy6.out).mono ?_
      rintro e w7 ⟨rfl, hb⟩
      rw [HL1.out]
      have Hx7 := hide (Hx6.out.old hb)
      have Hs7 := hide (Hs6.out.old hb)
      have Hy7 := hide (Hy6.out.old hb)
      have Hz7 := hide (Hz6.out.old hb)
      have HB7 := hide (HB6.out.trans (hb.mono HB6.out.size))
      clear hb HB6 Hx6 Hs6 Hy6 Hz6
      go_wp2_with fail
      go_ret
      exact ⟨rfl, HB7.out⟩
  · clear hA
    go_enter Tryz.func6, Tryz.ntmps6
    go_wp2_with fail
    go_ret
    exact ⟨rfl, Below.refl _ _⟩
end Go.Proofs.YtkcobaimcfggjaaGreatDoor
