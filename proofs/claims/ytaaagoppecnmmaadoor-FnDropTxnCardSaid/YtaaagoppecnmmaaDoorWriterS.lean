/- The reference's l5Writer: the first writer of a value. -/
import Derived.Test.YtaaagoppecnmmaaDoorWriters
namespace Go.Proofs.YtaaagoppecnmmaaDoor
open Go.RowKit
set_option linter.unusedVariables false

theorem look_append_none {l r : List (Nat × Op)} {x y : Int} (h : look l x y = none) : look (l ++ r) x y = look r x y := by
  unfold look at h ⊢
  rw [Option.map_eq_none_iff] at h
  rw [List.find?_append, h]
  rfl
theorem look_hit {l r : List (Nat × Op)} {q : Nat × Op} {x y : Int} (h : look l x y = none) (hq : isW x y q.2 = true) : look (l ++ q :: r) x y = some (q.1 : Int) := by
  rw [look_append_none h]
  unfold look
  simp [hq]
set_option maxRecDepth 10000 in
set_option maxHeartbeats 1000000 in
theorem specWriter (xs : List Txn) (key value : Int) (A : Option Addr) (c : Nat) (w : World) (hm : xs.length ≤ maxLen) (hA : Row tTxn w (Old w) A xs) :
    Calls Tryd.prog 54 #[.slice A xs.length c, .int .i64 key, .int .i64 value] w fun e w' => e = .returned (.int .i64 ((look (num xs 0) key value).getD (-1))) ∧ Below w.heap.size w w' := by
  unfold maxLen at hm
  have HA := hide hA
  clear hA
  go_enter Tryd.func54, Tryd.ntmps54
  go_wp2
  go_loopw [7] (fun i wr => ∃ k : Nat, k ≤ xs.length ∧ i = .int .i64 k ∧ Hid (look (num (xs.take k) 0) key value = none) ∧ Below w.heap.size w wr) (fun i _ => xs.length - (intOf i).toNat)
  case atStart => exact ⟨0, Nat.zero_le _, rfl, rfl, Below.refl _ _⟩
  case round =>
    obtain ⟨k, hk, rfl, hI, hb⟩ := hrel
    by_cases hlt : k < xs.length
    · obtain ⟨b, off, A2, c2, rfl, hbS, c0, c1, c3, hi1, hi2, hi3⟩ := at_Txn HA.out hb hlt
      have hq2 : xs[k].Ops.length ≤ 9223372036854775807 := by have h := Nat.le_trans hi1 hi2; simpa [maxLen] using h
      have HR := hide hi3
      have HbS := hide (show b < wr.heap.size from Nat.lt_of_lt_of_le hbS hb.size)
      have Hc1 := hide c1
      clear hi3 hi2 hbS c0 c3
      go_wp2
      clear c1
      obtain ⟨wo, hwo⟩ : ∃ wo : World, wo = wr := ⟨_, rfl⟩
      rw [← hwo] at hb HR HbS Hc1 ⊢
      clear hwo
      have hp0 : pre xs k 0 hlt = num (xs.take k) 0 := by unfold pre; simp
      go_loopw [8] (fun j wr2 => ∃ l : Nat, l ≤ xs[k].Ops.length ∧ j = .int .i64 l ∧ Hid (look (pre xs k l hlt) key value = none) ∧ Below wo.heap.size wo wr2) (fun j _ => xs[k].Ops.length - (intOf j).toNat)
      case atStart => exact ⟨0, Nat.zero_le _, rfl, by rw [hp0]; exact hI, Below.refl _ _⟩
      case round =>
        obtain ⟨l, hl, rfl, hJ, hb2⟩ := hrel
        have c1 := (hb2.cell (p := ⟨b, off + k * 3 + 1, none⟩) HbS.out).trans Hc1.out
        by_cases hlt2 : l < xs[k].Ops.length
        · obtain ⟨b2, off2, rfl, hbS2, d0, d1, d2⟩ := at_Op HR.out hb2 hlt2
          cases hw : isW key value xs[k].Ops[l] with
          | true =>
            have HO := hide (show look (num xs 0) key value = some (k : Int) by
              obtain ⟨r, hr⟩ := num_split xs k l hlt hlt2
              rw [hr]
              exact look_hit hJ.out hw)
            have hw' := hw
            simp only [isW, Bool.and_eq_true, beq_iff_eq] at hw'
            obtain ⟨⟨hw0, hw1⟩, hw2⟩ := hw'
            rw [hw0] at d0; rw [hw1] at d1; rw [hw2] at d2
            clear hw hw0 hw1 hw2
            go_wp2
            go_ret
            exact ⟨by rw [HO.out]; rfl, hb.trans (hb2.mono hb.size)⟩
          | false =>
            have HJ := hide (show look (pre xs k (l + 1) hlt) key value = none by
              rw [pre_snoc xs k l hlt hlt2, look_snoc, hJ.out, if_neg (by rw [hw]; simp)]; rfl)
            have HW := hide hw
            clear hw
            go_wp2
            all_goals first
              | (exfalso; have hw := HW.out; simp [isW, *] at hw; done)
              | (go_roundw; (case rel => exact ⟨l + 1, by omega, by go_num, HJ.out, hb2⟩); (case measure => simp [intOf]; omega))
        · obtain rfl : l = xs[k].Ops.length := by omega
          have HP := hide (show look (num (xs.take (k + 1)) 0) key value = none by rw [← pre_all xs k hlt]; exact hJ.out)
          go_wp2
          go_roundw
          case rel => exact ⟨k + 1, by omega, by go_num, HP.out, hb.trans (hb2.mono hb.size)⟩
          case measure => simp [intOf]; omega
    · obtain rfl : k = xs.length := by omega
      have HE := hide (show look (num xs 0) key value = none by have h := hI.out; rwa [List.take_length] at h)
      clear HA hI
      go_wp2
      go_ret
      exact ⟨by rw [HE.out]; rfl, hb⟩
end Go.Proofs.YtaaagoppecnmmaaDoor
