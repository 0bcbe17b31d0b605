/- slices.IndexFunc and slices.ContainsFunc answer by the first element that the predicate takes, for transactions. -/
import Derived.Test.YtkcobaimcfggjaaGreatDoorProg
import Derived.Test.YtkcobaimcfggjaaGreatDoorBase
namespace Go.Proofs.YtkcobaimcfggjaaGreatDoor
open Go.RowKit

set_option maxHeartbeats 400000 in
theorem idx_Txn (xs : List Txn) (A : Option Addr) (c : Nat) (w : World) (g : Nat) (lb : Array Value) (p : Txn → Bool)
    (eg : ∀ args w, (callFunc g args).run Tryz.prog w = .ok (.enter g args) w) (hl : xs.length ≤ maxLen) (hR : Row tTxn w (Old w) A xs)
    (hf : ∀ x ∈ xs, ∀ cs, tTxn.rel w (Old w) x cs → Pred Tryz.prog g lb w (one_ cs) (p x)) :
    Calls Tryz.prog 162 #[.slice A xs.length c, .func (.func g) #[] lb] w fun e w' => e = .returned (.int .i64 (idx p xs)) ∧ Below w.heap.size w w' := by
  unfold maxLen at hl
  go_enter Tryz.func162, Tryz.ntmps162
  go_wp2
  go_loopw [5, 8] (fun _ i wr => ∃ k : Nat, k ≤ xs.length ∧ i = .int .i64 k ∧ Hid (∀ j (hj : j < xs.length), j < k → p xs[j] = false) ∧ Below w.heap.size w wr) (fun _ i _ => xs.length - (intOf i).toNat)
  case atStart => exact ⟨0, Nat.zero_le _, rfl, (fun j hj h => absurd h (by omega)), Below.refl _ _⟩
  case round =>
    obtain ⟨k, hk, rfl, hI, hb⟩ := hrel
    by_cases hlt : k < xs.length
    · obtain ⟨b, off, rfl, hbS, hc⟩ := hR (by omega)
      obtain ⟨cs, hr, hcs⟩ := hc k hlt
      have hp := hf xs[k] (List.getElem_mem hlt) cs hr wr hb
      obtain ⟨v, rfl, A2, c2, rfl, hs1, hs2, hs3⟩ := hr
      have c0 := (hb.cell (p := ⟨b, off + k * tTxn.size + 0, none⟩) hbS).trans (hcs 0 _ rfl)
      have c1 := (hb.cell (p := ⟨b, off + k * tTxn.size + 1, none⟩) hbS).trans (hcs 1 _ rfl)
      have c2 := (hb.cell (p := ⟨b, off + k * tTxn.size + 2, none⟩) hbS).trans (hcs 2 _ rfl)
      clear hc hf hR hcs
      simp only [tTxn, Nat.add_zero] at c0 c1 c2
      simp only [one_] at hp
      cases hq : p xs[k] with
      | true =>
        rw [hq] at hp
        have HQ := hide hq; clear hq
        go_wp2_with (go_at_fn g; refine hp.mono ?_; rintro e w' ⟨rfl, hb'⟩)
        go_ret
        exact ⟨ret_int (idx_hit p xs k hlt HQ.out hI.out).symm, hb'⟩
      | false =>
        rw [hq] at hp
        have HQ := hide hq; clear hq
        go_wp2_with (go_at_fn g; refine hp.mono ?_; rintro e w' ⟨rfl, hb'⟩)
        go_roundw
        case rel => exact ⟨k + 1, by omega, by go_num, (fun j hj h => by rcases Nat.lt_succ_iff_lt_or_eq.1 h with h | rfl; exact hI.out j hj h; exact HQ.out), hb'⟩
        case measure => simp [intOf]; omega
    · have hI2 : Hid (∀ j (hj : j < xs.length), p xs[j] = false) := fun j hj => hI.out j hj (by omega)
      clear hI hR hf
      go_wp2
      go_ret
      exact ⟨ret_int (idx_miss p xs hI2.out).symm, hb⟩
theorem cont_Txn (xs : List Txn) (A : Option Addr) (c : Nat) (w : World) (g : Nat) (lb : Array Value) (p : Txn → Bool)
    (eg : ∀ args w, (callFunc g args).run Tryz.prog w = .ok (.enter g args) w) (hl : xs.length ≤ maxLen) (hR : Row tTxn w (Old w) A xs)
    (hf : ∀ x ∈ xs, ∀ cs, tTxn.rel w (Old w) x cs → Pred Tryz.prog g lb w (one_ cs) (p x)) :
    Calls Tryz.prog 125 #[.slice A xs.length c, .func (.func g) #[] lb] w fun e w' => e = .returned (.bool (xs.any p)) ∧ Below w.heap.size w w' := by
  have H := hide (idx_Txn xs A c w g lb p eg hl hR hf)
  clear hR hf
  go_enter Tryz.func125, Tryz.ntmps125
  go_wp2_with (go_at_call 162; refine H.out.mono ?_; rintro e w' ⟨rfl, hb'⟩)
  go_ret
  refine ⟨ret_bool ?_, hb'⟩
  rw [Bool.eq_iff_iff, ← idx_neg, decide_eq_true_iff]

end Go.Proofs.YtkcobaimcfggjaaGreatDoor
