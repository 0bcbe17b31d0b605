/- The reference's l14Version; the two VersionOf. -/
import Derived.Test.YtmlbfhknapkhgaaVer
namespace Go.Proofs.Ytmlbfhknapkhgaa
open Go.RowKit
set_option linter.unusedVariables false
set_option linter.unusedSimpArgs false

set_option maxRecDepth 10000 in
set_option maxHeartbeats 1000000 in
theorem specVersion (o : List Int) (v : Int) (A : Option Addr) (c : Nat) (w : World) (hl : o.length ≤ 1048576) (hA : Row tInt w (Old w) A o) :
    Calls Try.prog 91 #[.slice A o.length c, .int .i64 v] w fun e w' => e = .returned (.int .i64 (verN7 o v)) ∧ w = w' := by
  have HA := hide hA
  have HV := hide (show verN7 o v = if v = 0 then 0 else if 0 ≤ idx (fun y => v == y) o then idx (fun y => v == y) o + 1 else -1 from rfl)
  have hq : o.length ≤ 9223372036854775807 := by omega
  clear hA
  go_enter Try.func91, Try.ntmps91
  by_cases h0 : v = 0
  · have HV2 := hide (HV.out.trans (if_pos h0))
    subst h0
    clear HV
    go_wp2_with fail
    go_ret
    exact ⟨ret_int HV2.out.symm, rfl⟩
  · have HV2 := hide (HV.out.trans (if_neg h0))
    have h0b : (v == 0) = false := by simpa using h0
    clear HV h0
    go_wp2_with fail
    go_loop [5] (fun i => ∃ k : Nat, k ≤ o.length ∧ i = .int .i64 k ∧ Hid (∀ j (hj : j < o.length), j < k → (v == o[j]) = false)) (fun i => o.length - (intOf i).toNat)
    case atStart => exact ⟨0, Nat.zero_le _, rfl, (fun j hj h => absurd h (by omega))⟩
    case round =>
      obtain ⟨k, hk, rfl, hI⟩ := hrel
      have HI := hide hI.out
      clear hI
      by_cases hlt : k < o.length
      · obtain ⟨b, off, rfl, hbS, c0⟩ := at_Int HA.out (Below.refl _ _) hlt
        have HHit := hide (fun (h : (v == o[k]) = true) => idx_hit (fun y => v == y) o k hlt h HI.out)
        have HMs := hide (fun (h : (v == o[k]) = false) => (show ∀ j (hj : j < o.length), j < k + 1 → (v == o[j]) = false from fun j hj h1 => by
          by_cases hjk : j < k
          · exact HI.out j hj hjk
          · obtain rfl : j = k := by omega
            exact h))
        generalize o[k] = x at c0 HHit HMs
        cases hx : (v == x) with
        | true =>
          have hx2 : (x == v) = true := by rw [beq_iff_eq] at hx ⊢; exact hx.symm
          have HV3 := hide (show verN7 o v = (k : Int) + 1 by rw [HV2.out, HHit.out hx, if_pos (by omega)])
          have hsum : IntKind.i64.wrap ((k : Int) + 1) = (k : Int) + 1 := by rw [IntKind.wrap_i64]; omega
          clear HHit HMs hx
          go_wp2_with fail
          go_ret
          exact ⟨ret_int HV3.out.symm, rfl⟩
        | false =>
          have hx2 : (x == v) = false := by rw [beq_eq_false_iff_ne] at hx ⊢; exact fun e => hx e.symm
          have HM2 := hide (HMs.out hx)
          clear HHit HMs hx
          go_wp2_with fail
          go_round
          case rel => exact ⟨k + 1, by omega, by go_num, HM2.out⟩
          case measure => simp [intOf]; omega
      · obtain rfl : k = o.length := by omega
        have HV3 := hide (show verN7 o v = -1 by rw [HV2.out, idx_miss (fun y => v == y) o (fun j hj => HI.out j hj hj)]; rfl)
        go_wp2_with fail
        go_ret
        exact ⟨ret_int HV3.out.symm, rfl⟩
end Go.Proofs.Ytmlbfhknapkhgaa
