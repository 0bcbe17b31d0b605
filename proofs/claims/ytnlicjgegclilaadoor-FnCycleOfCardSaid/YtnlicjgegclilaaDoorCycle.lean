/- CycleRight of the program and of the reference answer alike. -/
import Derived.Test.YtnlicjgegclilaaDoorMatrix
namespace Go.Proofs.YtnlicjgegclilaaDoor
open Go.RowKit
set_option linter.unusedVariables false

def cycV (many : Int) (xs : List Edge) (ns : List Int) : Bool := edgesV many xs && decide (2 ≤ ns.length) && cycS xs ns
theorem rem_nat (k n m : Nat) (h : m = (k + 1) % n) : Int.tmod ((k : Int) + 1) (n : Int) = (m : Int) := by
  subst h
  rw [Int.tmod_eq_emod_of_nonneg (by omega)]
  exact (Int.natCast_emod (k + 1) n).symm
theorem hasE_succ {xs : List Edge} {l : Nat} (h : l < xs.length) (a b : Int) : hasE (xs.take (l + 1)) a b = (hasE (xs.take l) a b || (xs[l].From == a && xs[l].To == b)) := by
  unfold hasE
  rw [List.take_succ_eq_append_getElem h, List.any_append]
  simp

set_option maxRecDepth 10000 in
set_option maxHeartbeats 1000000 in
theorem specCycleRight (many : Int) (xs : List Edge) (ns : List Int) (A B : Option Addr) (c d : Nat) (w : World) (hl : xs.length ≤ maxLen) (hln : ns.length ≤ maxLen) (hA : Row tEdge w (Old w) A xs) (hB : Row tInt w (Old w) B ns) :
    Calls Tryd.prog 7 #[.int .i64 many, .slice A xs.length c, .slice B ns.length d] w fun e w' => e = .returned (.bool (cycV many xs ns)) ∧ Below w.heap.size w w' := by
  have HE := hide (specEdgesValid many xs A c w hl hA)
  have HM := hide hln
  unfold maxLen at hl hln
  have HA := hide hA
  have HB := hide hB
  clear hA hB
  cases hv : edgesV many xs with
  | false =>
    have HV := hide (show cycV many xs ns = false by unfold cycV; rw [hv]; rfl)
    rw [hv] at HE
    clear hv
    go_enter Tryd.func7, Tryd.ntmps7
    go_wp2_with (go_at_call 13; refine HE.out.mono ?_; rintro e w1 ⟨rfl, hb1⟩)
    go_ret
    exact ⟨ret_bool HV.out.symm, hb1⟩
  | true =>
    by_cases h2 : 2 ≤ ns.length
    · have HV := hide (show cycV many xs ns = cycS xs ns by unfold cycV; rw [hv]; simp [h2])
      rw [hv] at HE
      clear hv
      go_enter Tryd.func7, Tryd.ntmps7
      go_wp2_with (go_at_call 13; refine HE.out.mono ?_; rintro e w1 ⟨rfl, hb1⟩)
      go_loopw [7] (fun i wr => ∃ k : Nat, k ≤ ns.length ∧ i = .int .i64 k ∧ Hid (∀ j, j < k → stepS xs ns j = true) ∧ Below w.heap.size w wr) (fun i _ => ns.length - (intOf i).toNat)
      case atStart => exact ⟨0, Nat.zero_le _, rfl, fun _ h => absurd h (by omega), hb1⟩
      case round =>
        obtain ⟨k, hk, rfl, hI, hb⟩ := hrel
        clear hb1 HE
        by_cases hlt : k < ns.length
        · obtain ⟨m, hmd⟩ : ∃ m, m = (k + 1) % ns.length := ⟨_, rfl⟩
          have hm : m < ns.length := by rw [hmd]; exact Nat.mod_lt _ (by omega)
          have hrem := rem_nat k ns.length m hmd
          have HS := hide (show stepS xs ns k = (hasE xs ns[k] ns[m] && ns.countP (fun y => y == ns[k]) == 1) by unfold stepS; rw [at_get hlt, ← hmd, at_get hm])
          have HR : Hid (∀ wr, Below w.heap.size w wr → Row tInt wr (Old wr) B ns) := fun wr h => HB.out.old h
          obtain ⟨b, off, hBq, hbS, c0⟩ := at_Int HB.out hb hlt
          obtain ⟨b', off', hBq', _, c1⟩ := at_Int HB.out hb hm
          subst hBq
          obtain ⟨rfl, rfl⟩ : b = b' ∧ off = off' := by simpa using hBq'
          clear hBq' hmd
          go_wp2
          obtain ⟨wo, rfl⟩ : ∃ wo : World, wo = wr := ⟨_, rfl⟩
          clear c0 c1
          go_loopw [9, 10] (fun f j wr => ∃ l : Nat, l ≤ xs.length ∧ j = .int .i64 l ∧ f = .bool (hasE (xs.take l) ns[k] ns[m]) ∧ Below w.heap.size w wr) (fun _ j _ => xs.length - (intOf j).toNat)
          case atStart => exact ⟨0, Nat.zero_le _, rfl, rfl, hb⟩
          case round =>
            obtain ⟨l, hll, rfl, rfl, hb2⟩ := hrel
            clear hb
            obtain ⟨b', off', hBq, _, c0⟩ := at_Int HB.out hb2 hlt
            obtain ⟨rfl, rfl⟩ : b = b' ∧ off = off' := by simpa using hBq
            clear hBq
            by_cases hlt2 : l < xs.length
            · obtain ⟨b2, off2, rfl, hbS2, d0, d1, d2⟩ := at_Edge HA.out hb2 hlt2
              have HT := hide (hasE_succ hlt2 ns[k] ns[m])
              cases q0 : hasE (xs.take l) ns[k] ns[m] with
              | true =>
                have HQ := hide (show hasE (xs.take (l + 1)) ns[k] ns[m] = true by rw [HT.out, q0]; rfl)
                go_wp2
                go_quiet (fail)
                go_wp2
                go_roundw
                case rel => exact ⟨l + 1, by omega, by go_num, by rw [HQ.out], below_drewN hb2 _⟩
                case measure => simp [intOf]; omega
              | false =>
                cases q1 : (xs[l].From == ns[k]) with
                | false =>
                  have HQ := hide (show hasE (xs.take (l + 1)) ns[k] ns[m] = false by rw [HT.out, q0, q1]; rfl)
                  go_wp2
                  go_quiet (fail)
                  go_wp2
                  go_roundw
                  case rel => exact ⟨l + 1, by omega, by go_num, by rw [HQ.out], below_drewN hb2 _⟩
                  case measure => simp [intOf]; omega
                | true =>
                  have HQ := hide (show hasE (xs.take (l + 1)) ns[k] ns[m] = (xs[l].To == ns[m]) by rw [HT.out, q0, q1]; rfl)
                  go_wp2
                  go_quiet (fail)
                  go_wp2
                  go_roundw
                  case rel => exact ⟨l + 1, by omega, by go_num, by rw [HQ.out], below_drewN hb2 _⟩
                  case measure => simp [intOf]; omega
            · obtain rfl : l = xs.length := by omega
              rw [List.take_length]
              cases q0 : hasE xs ns[k] ns[m] with
              | false =>
                have HF := hide (show stepS xs ns k = false by rw [HS.out, q0]; rfl)
                go_wp2
                go_ret
                exact ⟨ret_bool (by rw [HV.out]; exact (range_not hlt HF.out).symm), hb2⟩
              | true =>
                have HG := hide (l13Count ns ns[k] (some ⟨b, off, none⟩) d wr HM.out (HR.out wr hb2))
                by_cases q1 : ns.countP (fun y => y == ns[k]) = 1
                · have HF := hide (show stepS xs ns k = true by rw [HS.out, q0, q1]; rfl)
                  rw [q1] at HG
                  go_wp2_with (go_at_call 23; refine HG.out.mono ?_; rintro e w' ⟨rfl, rfl⟩)
                  go_roundw
                  case rel => exact ⟨k + 1, by omega, by go_num, (fun j hj => by rcases Nat.lt_succ_iff_lt_or_eq.1 hj with h | rfl; exact hI.out j h; exact HF.out), hb2⟩
                  case measure => simp [intOf]; omega
                · have HF := hide (show stepS xs ns k = false by rw [HS.out, q0]; simpa using q1)
                  obtain ⟨n, hn⟩ : ∃ n, n = ns.countP (fun y => y == ns[k]) := ⟨_, rfl⟩
                  rw [← hn] at HG q1
                  have q2 : ((n : Int) = 1) = False := by simp; omega
                  go_wp2_with (go_at_call 23; refine HG.out.mono ?_; rintro e w' ⟨rfl, rfl⟩)
                  go_ret
                  exact ⟨ret_bool (by rw [HV.out]; exact (range_not hlt HF.out).symm), hb2⟩
        · obtain rfl : k = ns.length := by omega
          have HF := hide (show cycS xs ns = true from range_upto hI.out)
          go_wp2
          go_ret
          exact ⟨ret_bool (by rw [HV.out, HF.out]), hb⟩
    · have HV := hide (show cycV many xs ns = false by unfold cycV; simp [h2])
      rw [hv] at HE
      clear hv
      go_enter Tryd.func7, Tryd.ntmps7
      go_wp2_with (go_at_call 13; refine HE.out.mono ?_; rintro e w1 ⟨rfl, hb1⟩)
      go_ret
      exact ⟨ret_bool HV.out.symm, hb1⟩
end Go.Proofs.YtnlicjgegclilaaDoor
