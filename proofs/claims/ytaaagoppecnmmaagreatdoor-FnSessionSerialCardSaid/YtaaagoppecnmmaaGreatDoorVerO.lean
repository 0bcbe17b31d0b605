/- The place of a value in an order: the program's version, the reference's l14Version. The reference's l14Version; the two VersionOf. The two VersionOf. -/
import Derived.Test.YtaaagoppecnmmaaGreatDoorOrdS
import Derived.Test.YtaaagoppecnmmaaGreatDoorIdx
namespace Go.Proofs.YtaaagoppecnmmaaGreatDoor
open Go.RowKit
set_option linter.unusedVariables false
set_option linter.unusedSimpArgs false

def verN7 (o : List Int) (v : Int) : Int := if v = 0 then 0 else if 0 ≤ idx (fun y => v == y) o then idx (fun y => v == y) o + 1 else -1
theorem idx_lt7 {α : Type} (p : α → Bool) : ∀ (xs : List α), idx p xs = -1 ∨ ∃ i : Nat, i < xs.length ∧ idx p xs = (i : Int)
  | [] => .inl rfl
  | x :: xs => by
    cases hx : p x with
    | true => exact .inr ⟨0, by simp, by simp [idx, hx]⟩
    | false =>
      rcases idx_lt7 p xs with h1 | ⟨i, hi, h1⟩
      · left; simp only [idx, hx, h1]; rfl
      · right; exact ⟨i + 1, by simpa using hi, by simp only [idx, hx, h1]; rfl⟩
set_option maxRecDepth 10000 in
set_option maxHeartbeats 1000000 in
theorem implVersion (o : List Int) (v : Int) (A : Option Addr) (c : Nat) (w : World) (hl : o.length ≤ 1048576) (hA : Row tInt w (Old w) A o) :
    Calls Tryz.prog 89 #[.slice A o.length c, .int .i64 v] w fun e w' => e = .returned (.int .i64 (verN7 o v)) ∧ w = w' := by
  have HI := hide (index_Int o v A c w (by simp only [maxLen]; omega) hA)
  have hlt : idx (fun y => v == y) o < 1048577 ∧ -1 ≤ idx (fun y => v == y) o := by
    rcases idx_lt7 (fun y => v == y) o with h | ⟨i, hi, h⟩
    · rw [h]; omega
    · rw [h]; omega
  have HV := hide (show verN7 o v = if v = 0 then 0 else if 0 ≤ idx (fun y => v == y) o then idx (fun y => v == y) o + 1 else -1 from rfl)
  generalize idx (fun y => v == y) o = q at HI hlt HV
  clear hA
  go_enter Tryz.func89, Tryz.ntmps89
  by_cases h0 : v = 0
  · have HV2 := hide (HV.out.trans (if_pos h0))
    subst h0
    clear HV
    go_wp2_with fail
    go_ret
    exact ⟨ret_int HV2.out.symm, rfl⟩
  · have HV2 := hide (HV.out.trans (if_neg h0))
    have h0b : (v == 0) = false := by simpa using h0
    clear HV h0
    by_cases hq : 0 ≤ q
    · have HV3 := hide (HV2.out.trans (if_pos hq))
      have hqd : decide (q ≥ 0) = true := decide_eq_true hq
      have hsum : IntKind.i64.wrap (q + 1) = q + 1 := by rw [IntKind.wrap_i64]; omega
      go_wp2_with (go_at_call 92; refine HI.out.mono ?_; rintro e w' ⟨rfl, rfl⟩)
      go_ret
      exact ⟨ret_int HV3.out.symm, rfl⟩
    · have HV3 := hide (HV2.out.trans (if_neg hq))
      have hqd : decide (q ≥ 0) = false := decide_eq_false hq
      go_wp2_with (go_at_call 92; refine HI.out.mono ?_; rintro e w' ⟨rfl, rfl⟩)
      go_ret
      exact ⟨ret_int HV3.out.symm, rfl⟩
def verO (h : List Txn) (os : List (List Int)) (key v : Int) : Int := if ordB h os && inR key 0 2 then verN7 (os.getD key.toNat []) v else -1
theorem ord_len {h : List Txn} {os : List (List Int)} (hv : ordB h os = true) : os.length = 3 := by
  unfold ordB at hv
  simp only [Bool.and_eq_true, decide_eq_true_eq] at hv
  exact hv.2.1
end Go.Proofs.YtaaagoppecnmmaaGreatDoor
