/- The law of ScheduleValid: the program answers as the reference does, for all arguments. No condition. -/
import Derived.Test.YtahjpdagdpngaaaSched
import Derived.Test.YtahjpdagdpngaaaToA
import Derived.Test.YtahjpdagdpngaaaEqA
namespace Go.Proofs.Ytahjpdagdpngaaa
open Go.RowKit

theorem lawScheduleValid (many : Int) (xs : List Int) (A : Option Addr) (c : Nat) (w : World) (hl : xs.length ≤ maxLen) (hA : Row tInt w (Old w) A xs) :
    Calls Try.prog 3 #[.int .i64 many, .slice A xs.length c] w fun e w' => e = .returned (.bool true) ∧ Below w.heap.size w w' := by
  have HA := hide hA
  clear hA
  by_cases hb : xs.length ≤ 1048576
  · go_enter Try.func3, Try.ntmps3
    go_wp2_with fail
    refine (toIntS xs A c w hb HA.out).mono ?_
    rintro e w1 ⟨v1, rfl, hO1, hb1⟩
    obtain ⟨A1, c1, rfl, _, _, hR1⟩ := hO1.old
    have HR1 := hide hR1; have HB1 := hide hb1; clear hO1 hR1 hb1
    go_wp2_with fail
    refine (specScheduleValid many xs A1 c1 w1 hl HR1.out).mono ?_
    rintro e _ ⟨rfl, rfl⟩
    go_wp2_with fail
    refine (toIntS xs A c w1 hb (HA.out.old HB1.out)).mono ?_
    rintro e w2 ⟨v2, rfl, hO2, hb2⟩
    obtain ⟨A2, c2, rfl, _, _, hR2⟩ := hO2.old
    have HR2 := hide hR2; have HB2 := hide (HB1.out.trans (hb2.mono HB1.out.size)); clear hO2 hR2 hb2
    go_wp2_with fail
    refine (implScheduleValid many xs A2 c2 w2 hl HR2.out).mono ?_
    rintro e w3 ⟨rfl, hb3⟩
    have HR3 := hide (HR2.out.old hb3); have HB3 := hide (HB2.out.trans (hb3.mono HB2.out.size)); clear hb3
    go_wp2_with fail
    refine (toIntS xs A c w3 hb (HA.out.old HB3.out)).mono ?_
    rintro e w4 ⟨v4, rfl, hO4, hb4⟩
    obtain ⟨A4, c4, rfl, _, _, hR4⟩ := hO4.old
    have HR4 := hide hR4; have HR5 := hide (HR3.out.old hb4); have HB4 := hide (HB3.out.trans (hb4.mono HB3.out.size)); clear hO4 hR4 hb4
    go_wp2_with fail
    refine (eqIntS xs A2 A4 c2 c4 w4 hl HR5.out HR4.out).mono ?_
    rintro e w5 ⟨rfl, hb5⟩
    have HB5 := hide (HB4.out.trans (hb5.mono HB4.out.size)); clear hb5
    go_wp2_with fail
    go_ret
    exact ⟨rfl, HB5.out⟩
  · unfold maxLen at hl
    go_enter Try.func3, Try.ntmps3
    go_wp2_with fail
    go_ret
    exact ⟨rfl, Below.refl _ _⟩
end Go.Proofs.Ytahjpdagdpngaaa
