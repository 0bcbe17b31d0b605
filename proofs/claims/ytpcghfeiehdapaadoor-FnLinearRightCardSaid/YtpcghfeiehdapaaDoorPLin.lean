/- The law FnLinearRight: linear orders have all calls. -/
import Derived.Test.YtpcghfeiehdapaaDoorDrawLR
import Derived.Test.YtpcghfeiehdapaaDoorAlive
import Derived.Test.YtpcghfeiehdapaaDoorLinI
import Derived.Test.YtpcghfeiehdapaaDoorLinS
import Derived.Test.YtpcghfeiehdapaaDoorTabOf3
namespace Go.Proofs.YtpcghfeiehdapaaDoor
open Go.RowKit
set_option linter.unusedVariables false
set_option linter.unusedSimpArgs false

theorem linB_len {xs : List Call} {o : List Int} (h : linB xs o = true) : o.length = xs.length := by
  unfold linB at h
  simp only [Bool.and_eq_true] at h
  have h1 := h.2.1
  unfold sameB at h1
  rw [Bool.and_eq_true, decide_eq_true_iff] at h1
  rw [h1.2, nums_len]
theorem linB_cut {xs : List Call} {o : List Int} {k : Nat} (h : o.length = xs.length) (hp : 0 < o.length) : linB xs (o.take (o.length - 1)) = false := by
  cases hb : linB xs (o.take (o.length - 1)) with
  | false => rfl
  | true =>
    have := linB_len hb
    rw [List.length_take] at this
    omega
set_option maxRecDepth 10000 in
set_option maxHeartbeats 4000000 in
theorem lawFnLin (bs : List Int) (A : Option Addr) (c : Nat) (w : World) (hm : bs.length ≤ maxLen) (hc : bs.length ≤ c) (hcm : c ≤ maxLen) (hA : Row tByte w (Old w) A bs) (hT : TabDB w) :
    Calls Tryd.prog 3 #[.slice A bs.length c] w fun e w' => e = .returned (.bool true) ∧ Below w.heap.size w w' := by
  have hq : bs.length ≤ 9223372036854775807 := by simpa [maxLen] using hm
  have HT := hide hT
  clear hT
  by_cases hl : bs.length ≤ 1048576
  · have HD := hide (drawLinearRight bs A c w hl hc hcm hA)
    clear hA
    go_enter Tryd.func3, Tryd.ntmps3
    go_wp2_with fail
    refine HD.out.mono ?_
    rintro e w1 ⟨xs, o, v, v2, rfl, hx, hol, hS, hS2, hb1⟩
    obtain ⟨A1, c1, rfl, hle, hcm1, hR1⟩ := hS
    obtain ⟨A2, c2, rfl, hle2, hcm2, hR2⟩ := hS2
    have HR1 := hide hR1; have HO1 := hide hR2; have HB1 := hide hb1; clear hR1 hR2 hb1
    have hxm : xs.length ≤ maxLen := by simp only [maxLen]; omega
    go_wp2_with fail
    refine (implLinearRight xs o A1 A2 c1 c2 w1 hxm (by omega) HR1.out HO1.out (HT.out.below HT.out.lt HB1.out) (Nat.lt_of_lt_of_le HT.out.lt HB1.out.size)).mono ?_
    rintro e w2 ⟨rfl, hb2⟩
    have HR2 := hide (HR1.out.old hb2); have HO2 := hide (HO1.out.old hb2); have HB2 := hide (HB1.out.trans (hb2.mono HB1.out.size)); clear hb2
    go_wp2_with fail
    refine (specLinearRight xs o A1 A2 c1 c2 w2 (by omega) (by omega) HR2.out HO2.out).mono ?_
    rintro e w3 ⟨rfl, hb3⟩
    have HR3 := hide (HR2.out.old hb3); have HO3 := hide (HO2.out.old hb3); have HB3 := hide (HB2.out.trans (hb3.mono HB2.out.size)); clear hb3
    have HAl := hide alive_any
    clear HR1 HO1 HB1 HR2 HO2 HB2
    cases hb : linB xs o with
    | false =>
      clear hb
      go_wp2_with (go_at_call 9; refine (HAl.out _).mono ?_; rintro e w7 ⟨rfl, hb7⟩; have HB7 := hide (HB3.out.trans (hb7.mono HB3.out.size)); clear hb7)
      go_ret
      exact ⟨rfl, HB7.out⟩
    | true =>
      have hll := linB_len hb
      have hli : ((o.length : Int) == (xs.length : Int)) = true := by rw [beq_iff_eq]; omega
      by_cases h0 : o.length = 0
      · have h0i : ((o.length : Int) == 0) = true := by rw [beq_iff_eq]; omega
        clear hb hll h0
        go_wp2_with fail
        go_ret
        exact ⟨rfl, HB3.out⟩
      · have h0i : ((o.length : Int) == 0) = false := by rw [beq_eq_false_iff_ne]; omega
        have hcut := linB_cut (k := 0) hll (by omega : 0 < o.length)
        obtain ⟨n, hn⟩ : ∃ n : Nat, n = o.length - 1 := ⟨_, rfl⟩
        have hsub : IntKind.i64.wrap ((o.length : Int) - 1) = (n : Int) := by rw [IntKind.wrap_i64]; omega
        have hlt : (o.take n).length = n := by rw [List.length_take]; omega
        have HLr := hide (implLinearRight xs (o.take n) A1 A2 c1 c2 w3 hxm (by rw [hlt]; omega) HR3.out (HO3.out.takeN n) (HT.out.below HT.out.lt HB3.out) (Nat.lt_of_lt_of_le HT.out.lt HB3.out.size))
        rw [hlt, hn, hcut, ← hn] at HLr
        have hn0 : (0 : Int) ≤ (n : Int) := by omega
        have hnc : (n : Int) ≤ (c2 : Int) := by omega
        have hnq : n ≤ c2 := by omega
        clear hb hll h0 hlt hcut hn
        go_wp2_with (go_at_call 7; refine HLr.out.mono ?_; rintro e w7 ⟨rfl, hb7⟩; have HB7 := hide (HB3.out.trans (hb7.mono HB3.out.size)); clear hb7)
        go_ret
        exact ⟨rfl, HB7.out⟩
  · clear hA
    go_enter Tryd.func3, Tryd.ntmps3
    go_wp2_with fail
    go_ret
    exact ⟨rfl, Below.refl _ _⟩
end Go.Proofs.YtpcghfeiehdapaaDoor
