/- The reference's FindSnapshot, and both answers in the form that the law asks for. -/
import Derived.Test.YtaaagoppecnmmaaDoorFind13
import Derived.Test.YtaaagoppecnmmaaDoorSnapG
import Derived.Test.YtaaagoppecnmmaaDoorHold
namespace Go.Proofs.YtaaagoppecnmmaaDoor
open Go.RowKit
set_option linter.unusedVariables false
set_option linter.unusedSimpArgs false

def snapB (xs : List Txn) : Bool := (snapFst xs).isSome
def snapRR (xs : List Txn) : List Int := (snapFst xs).getD []
theorem dfsN_len (h : List Txn) : ∀ (f : Nat) (p : List Int) (S : SS) (o : List Int), dfsN h f p S = some o → o.length = p.length + f
  | 0, p, S, o, e => by cases e; rfl
  | f + 1, p, S, o, e => by
    rw [dfsN] at e
    obtain ⟨d, _, hd⟩ := List.exists_of_findSome?_eq_some e
    cases hn : snapNext h S d with
    | none => rw [hn] at hd; cases hd
    | some S' =>
      rw [hn] at hd
      have := dfsN_len h f (p ++ [d]) S' o hd
      rw [List.length_append, List.length_singleton] at this
      omega
theorem snapRR_len (xs : List Txn) : (snapRR xs).length ≤ 1048576 := by
  unfold snapRR snapFst
  split
  · rename_i hc
    simp only [Bool.and_eq_true, decide_eq_true_eq] at hc
    cases hd : dfsN xs (2 * (doneL xs).length) [] SS0 with
    | none => simp
    | some o =>
      have := dfsN_len _ _ _ _ _ hd
      simp at this ⊢
      omega
  · simp
set_option maxRecDepth 10000 in
set_option maxHeartbeats 2000000 in
theorem specFindSnapshot (xs : List Txn) (A : Option Addr) (c : Nat) (w : World) (hm : xs.length ≤ maxLen) (ht : opsN xs ≤ 1048576) (hA : Row tTxn w (Old w) A xs) :
    Calls Tryd.prog 33 #[.slice A xs.length c] w fun e w' => ∃ v, e = .returned (.tuple #[v, .bool (snapB xs)]) ∧ Sl tInt w' (New w w') (snapRR xs) v ∧ Below w.heap.size w w' := by
  have HD := hide (specDoneTxns xs A c w hm ht hA)
  have HC := hide (fun (W : World) (hb : Below w.heap.size w W) => specHistoryValid xs A c W hm (hA.old hb) ht)
  have HA := hide hA
  have HSB := hide (show snapB xs = (snapFst xs).isSome from rfl)
  have HSR := hide (show snapRR xs = (snapFst xs).getD [] from rfl)
  cases hv : histV xs with
  | false =>
    have HF := hide (show snapFst xs = none by unfold snapFst; rw [hv]; rfl)
    rw [hv] at HC
    rw [show doneR xs = [] by unfold doneR; rw [hv]; rfl] at HD
    clear hv hA
    go_enter Tryd.func33, Tryd.ntmps33
    go_wp2_with (first | (go_at_call 69; refine HD.out.mono ?_; rintro e w1 ⟨v1, rfl, hO1, hb1⟩; obtain ⟨A1, c1, rfl, h11, h12, h13⟩ := hO1.sl; have HB1 := hide hb1; clear hb1 hO1 h13) | (go_at_call 52; refine (HC.out _ HB1.out).mono ?_; rintro e w2 ⟨rfl, hb2⟩; have HB2 := hide (HB1.out.trans (hb2.mono HB1.out.size)); clear hb2))
    go_ret2
    exact ⟨_, by rw [HSB.out, HF.out]; rfl, by rw [HSR.out, HF.out]; exact Sl.zero_, HB2.out.alloc HB2.out.size _⟩
  | true =>
    have HBo := hide (fun (W : World) (hb : Below w.heap.size w W) => specBadOwn xs A c W hv hm ht (hA.old hb))
    have hdl : (doneL xs).length ≤ 6 := Nat.le_trans (doneI_len xs _) (histV_parts hv).1
    have HFi := hide (show fineB xs = ((badS xs).length == 0) from rfl)
    have HSf := hide (show snapFst xs = if fineB xs && decide ((doneL xs).length ≤ 4) then dfsS xs (2 * (doneL xs).length) [] else none by unfold snapFst; rw [hv, dfs_snap xs _ [] SS0 rfl, Bool.true_and])
    have HFd := hide (fun (B C : Option Addr) (f : Nat) (W : World) (lo : Nat) => find13_any xs A c hv (doneL xs) rfl (2 * (doneL xs).length) [] B C 0 f W lo (by simp) (fun x hx => by cases hx) (Nat.le_refl _) (by simp [maxLen]))
    rw [hv] at HC
    rw [show doneR xs = doneL xs by unfold doneR; rw [hv]; rfl] at HD
    clear hv hA
    generalize doneL xs = D at HD HSf HFd hdl
    generalize badS xs = Bd at HBo HFi
    by_cases h4 : D.length ≤ 4
    · have h4i : decide ((4 : Int) < (D.length : Int)) = false := decide_eq_false (by omega)
      cases hf : (Bd.length == 0) with
      | false =>
        have hfi : decide ((0 : Int) < (Bd.length : Int)) = true := by rw [beq_eq_false_iff_ne] at hf; exact decide_eq_true (by omega)
        have hfn : decide (0 < Bd.length) = true := by rw [beq_eq_false_iff_ne] at hf; exact decide_eq_true (by omega)
        have HF := hide (show snapFst xs = none by rw [HSf.out, HFi.out, hf]; rfl)
        clear hf h4
        go_enter Tryd.func33, Tryd.ntmps33
        go_wp2_with (first | (go_at_call 69; refine HD.out.mono ?_; rintro e w1 ⟨v1, rfl, hO1, hb1⟩; obtain ⟨A1, c1, rfl, h11, h12, h13⟩ := hO1.sl; have HB1 := hide hb1; clear hb1 hO1 h13) | (go_at_call 52; refine (HC.out _ HB1.out).mono ?_; rintro e w2 ⟨rfl, hb2⟩; have HB2 := hide (HB1.out.trans (hb2.mono HB1.out.size)); clear hb2) | (go_at_call 82; refine (HBo.out _ HB2.out).mono ?_; rintro e w3 ⟨v3, rfl, hO3, hb3⟩; obtain ⟨A3, c3, rfl, h31, h32, _⟩ := hO3.sl; have HB3 := hide (HB2.out.trans (hb3.mono HB2.out.size)); clear hb3 hO3))
        go_ret2
        exact ⟨_, by rw [HSB.out, HF.out]; rfl, by rw [HSR.out, HF.out]; exact Sl.zero_, HB3.out.alloc HB3.out.size _⟩
      | true =>
        have hfi : decide ((0 : Int) < (Bd.length : Int)) = false := by rw [beq_iff_eq] at hf; exact decide_eq_false (by omega)
        have hfn : decide (0 < Bd.length) = false := by rw [beq_iff_eq] at hf; exact decide_eq_false (by omega)
        have HF := hide (show snapFst xs = dfsS xs (2 * D.length) [] by rw [HSf.out, HFi.out, hf, decide_eq_true h4]; rfl)
        clear hf h4
        go_enter Tryd.func33, Tryd.ntmps33
        go_wp2_with (first | (go_at_call 69; refine HD.out.mono ?_; rintro e w1 ⟨v1, rfl, hO1, hb1⟩; obtain ⟨A1, c1, rfl, h11, h12, h13⟩ := hO1.sl; have HR1 := hide h13; have HB1 := hide hb1; clear hb1 hO1 h13) | (go_at_call 52; refine (HC.out _ HB1.out).mono ?_; rintro e w2 ⟨rfl, hb2⟩; have HB2 := hide (HB1.out.trans (hb2.mono HB1.out.size)); have HR2 := hide (HR1.out.mono (fun _ h => h) (fun b h => hb2.block b h.2)); have hw12 := hb2.size; clear hb2) | (go_at_call 82; refine (HBo.out _ HB2.out).mono ?_; rintro e w3 ⟨v3, rfl, hO3, hb3⟩; obtain ⟨A3, c3, rfl, h31, h32, _⟩ := hO3.sl; have hB3 := HB2.out.trans (hb3.mono HB2.out.size); have hz3 := hb3.size; have HR3 := hide (HR2.out.mono (w' := w3.alloc (.cells #[] 3)) (S' := Old (w3.alloc (.cells #[] 3))) (fun b h => by have := h.2; unfold Old; simp; omega) (fun b h => (Below.heap_alloc _ _ _ (by have := h.2; omega)).trans (hb3.block b (by have := h.2; omega)))); have HB3 := hide (hB3.alloc hB3.size (.cells #[] 3)); clear hb3 hO3 hB3) | (go_at_call 85; refine (HFd.out _ A1 c1 _ w.heap.size h11 h12 HB3.out.size (HA.out.old HB3.out) Row.nil HR3.out).mono ?_; rintro e w4 ⟨v4, rfl, hS4, hb4⟩))
        go_ret2
        exact ⟨_, by rw [HSB.out, HF.out]; rfl, by rw [HSR.out, HF.out]; exact hS4, HB3.out.trans (hb4.mono HB3.out.size)⟩
    · have h4i : decide ((4 : Int) < (D.length : Int)) = true := decide_eq_true (by omega)
      have HF := hide (show snapFst xs = none by rw [HSf.out, decide_eq_false h4, Bool.and_false]; rfl)
      clear h4
      go_enter Tryd.func33, Tryd.ntmps33
      go_wp2_with (first | (go_at_call 69; refine HD.out.mono ?_; rintro e w1 ⟨v1, rfl, hO1, hb1⟩; obtain ⟨A1, c1, rfl, h11, h12, h13⟩ := hO1.sl; have HB1 := hide hb1; clear hb1 hO1 h13) | (go_at_call 52; refine (HC.out _ HB1.out).mono ?_; rintro e w2 ⟨rfl, hb2⟩; have HB2 := hide (HB1.out.trans (hb2.mono HB1.out.size)); clear hb2))
      go_ret2
      exact ⟨_, by rw [HSB.out, HF.out]; rfl, by rw [HSR.out, HF.out]; exact Sl.zero_, HB2.out.alloc HB2.out.size _⟩
theorem implFindSnapshotR (xs : List Txn) (A : Option Addr) (c : Nat) (w : World) (hm : xs.length ≤ maxLen) (hA : Row tTxn w (Old w) A xs) :
    Calls Tryd.prog 32 #[.slice A xs.length c] w fun e w' => ∃ v, e = .returned (.tuple #[v, .bool (snapB xs)]) ∧ HoldI w' (New w w') (snapRR xs) v ∧ Below w.heap.size w w' :=
  implFindSnapshot xs A c w hm hA
end Go.Proofs.YtaaagoppecnmmaaDoor
