/- The program's DropTxn. -/
import Derived.Test.YtaaagoppecnmmaaDoorDropped
namespace Go.Proofs.YtaaagoppecnmmaaDoor
open Go.RowKit
set_option linter.unusedVariables false

theorem FreshTxns.nil {w w' : World} : FreshTxns w w' [] (.slice none 0 0) := ⟨[], 0, rfl, Hold.nil _, List.Pairwise.nil⟩
theorem FreshTxns.from_ {w0 w w' : World} {xs : List Txn} {v : Value} (h : FreshTxns w w' xs v) (hs : w0.heap.size ≤ w.heap.size) : FreshTxns w0 w' xs v := by
  obtain ⟨ps, g, h1, h2, h3⟩ := h
  exact ⟨ps, g, h1, h2.mono (fun b h => ⟨Nat.le_trans hs h.1, h.2⟩) (fun _ _ => rfl), h3⟩
set_option maxHeartbeats 400000 in
theorem implDropTxn (xs : List Txn) (n : Int) (A : Option Addr) (c : Nat) (w : World) (hm : xs.length ≤ maxLen) (hA : Row tTxn w (Old w) A xs) :
    Calls Tryd.prog 13 #[.slice A xs.length c, .int .i64 n] w fun e w' => ∃ v, e = .returned (.tuple #[v, .bool (dropB xs n)]) ∧ FreshTxns w w' (dropR xs n) v ∧ Below w.heap.size w w' := by
  have HH := hide (implHistoryValid xs A c w hm hA)
  have HA := hide hA
  have hq : xs.length ≤ 9223372036854775807 := by simpa [maxLen] using hm
  clear hA hm
  cases hv : histV xs with
  | false =>
    have HB := hide (show dropB xs n = false by unfold dropB; rw [hv]; rfl)
    have HR := hide (show dropR xs n = [] by unfold dropR; rw [HB.out]; rfl)
    rw [hv] at HH
    clear hv
    go_enter Tryd.func13, Tryd.ntmps13
    go_wp2_with (go_at_call 18; refine HH.out.mono ?_; rintro e w' ⟨rfl, hb'⟩)
    go_ret2
    exact ⟨_, by rw [HB.out]; rfl, by rw [HR.out]; exact FreshTxns.nil, hb'⟩
  | true =>
    cases hi : inR n 0 ((xs.length : Int) - 1) with
    | false =>
      have HB := hide (show dropB xs n = false by unfold dropB; rw [hv, hi]; rfl)
      have HR := hide (show dropR xs n = [] by unfold dropR; rw [HB.out]; rfl)
      have HI := hide hi
      rw [hv] at HH
      clear hv hi
      go_enter Tryd.func13, Tryd.ntmps13
      go_wp2_with (first | (go_at_call 18; refine HH.out.mono ?_; rintro e w' ⟨rfl, hb'⟩; have HB' := hide hb'; clear hb') | (go_at_call 49; refine (within _ _ _ _).mono ?_; rintro e w' ⟨rfl, rfl⟩; rw [HI.out]))
      go_ret2
      exact ⟨_, by rw [HB.out]; rfl, by rw [HR.out]; exact FreshTxns.nil, HB'.out⟩
    | true =>
      obtain ⟨h0, h1⟩ := inR_iff.1 hi
      obtain ⟨m, rfl⟩ : ∃ m : Nat, n = (m : Int) := ⟨n.toNat, by omega⟩
      have HB := hide (show dropB xs m = true by unfold dropB; rw [hv, hi]; rfl)
      have HR := hide (show dropR xs m = dropL xs m by unfold dropR; rw [HB.out]; simp)
      have HI := hide hi
      have HV := hide hv
      rw [hv] at HH
      clear hv hi
      go_enter Tryd.func13, Tryd.ntmps13
      go_wp2_with (first | (go_at_call 18; refine HH.out.mono ?_; rintro e w1 ⟨rfl, hb'⟩; have HB' := hide hb'; clear hb') | (go_at_call 49; refine (within _ _ _ _).mono ?_; rintro e w' ⟨rfl, rfl⟩; rw [HI.out]) | (go_at_call 50; refine (dropped_any xs m A c _ (by omega) HV.out (HA.out.old HB'.out)).mono ?_; rintro e w2 ⟨v, rfl, hF, hb2⟩; obtain ⟨A2, c2, rfl, _⟩ := hF.sl; have HF := hide hF; have HB2 := hide hb2; clear hF hb2))
      go_ret2
      exact ⟨_, by rw [HB.out]; rfl, by rw [HR.out]; exact HF.out.from_ HB'.out.size, HB'.out.trans (HB2.out.mono HB'.out.size)⟩
end Go.Proofs.YtaaagoppecnmmaaDoor
