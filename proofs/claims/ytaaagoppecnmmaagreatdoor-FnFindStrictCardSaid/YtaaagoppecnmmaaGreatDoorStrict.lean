/- The two StrictRight. -/
import Derived.Test.YtaaagoppecnmmaaGreatDoorSerR
import Derived.Test.YtaaagoppecnmmaaGreatDoorStriM
import Derived.Test.YtaaagoppecnmmaaGreatDoorSpans
namespace Go.Proofs.YtaaagoppecnmmaaGreatDoor
open Go.RowKit
set_option linter.unusedVariables false
set_option linter.unusedSimpArgs false

def strictB (h : List Txn) (sp : List Span) (ns : List Int) : Bool := serB h ns && (spansV (h.length : Int) sp && timeB sp ns ns.length)
theorem spans_len {h : List Txn} {sp : List Span} (hs : spansV (h.length : Int) sp = true) : sp.length = h.length := by
  unfold spansV at hs
  simp only [Bool.and_eq_true, decide_eq_true_eq] at hs
  have := hs.1.2
  omega
theorem ser_in {h : List Txn} {ns : List Int} (hs : serB h ns = true) : ∀ n ∈ ns, 0 ≤ n ∧ n < h.length := by
  unfold serB at hs
  simp only [Bool.and_eq_true] at hs
  exact same_in hs.2.1
set_option maxRecDepth 10000 in
set_option maxHeartbeats 2000000 in
theorem implStrictRight (xs : List Txn) (sp : List Span) (ns : List Int) (A S B : Option Addr) (c s d : Nat) (w : World) (hm : xs.length ≤ maxLen) (hms : sp.length ≤ maxLen) (hmn : ns.length ≤ 1048576) (hnd : ns.length ≤ d) (hA : Row tTxn w (Old w) A xs) (hS : Row tSpan w (Old w) S sp) (hN : Row tInt w (Old w) B ns) :
    Calls Tryz.prog 10 #[.slice A xs.length c, .slice S sp.length s, .slice B ns.length d] w fun e w' => e = .returned (.bool (strictB xs sp ns)) ∧ Below w.heap.size w w' := by
  have HC := hide (implSerialRight xs ns A B c d w hm hmn hA hN)
  have HSr := hide (show strictB xs sp ns = (serB xs ns && (spansV (xs.length : Int) sp && timeB sp ns ns.length)) from rfl)
  have HSp := hide (fun (W : World) (hb : Below w.heap.size w W) => implSpansValid (xs.length : Int) sp S s W hms (hS.old hb))
  cases hv : serB xs ns with
  | false =>
    rw [hv] at HC HSr
    clear hv hA hN hS HSp
    go_enter Tryz.func10, Tryz.ntmps10
    go_wp2_with (go_at_call 17; refine HC.out.mono ?_; rintro e w1 ⟨rfl, hb1⟩; have HB1 := hide hb1; clear hb1)
    go_ret
    exact ⟨ret_bool HSr.out.symm, HB1.out⟩
  | true =>
    have hin := ser_in hv
    rw [hv] at HC HSr
    cases hs : spansV (xs.length : Int) sp with
    | false =>
      rw [hs] at HSp HSr
      clear hv hA hN hS hin hs
      go_enter Tryz.func10, Tryz.ntmps10
      go_wp2_with (first | (go_at_call 17; refine HC.out.mono ?_; rintro e w1 ⟨rfl, hb1⟩; have HB1 := hide hb1; clear hb1) | (go_at_call 28; refine (HSp.out _ HB1.out).mono ?_; rintro e w2 ⟨rfl, hb2⟩; have HB2 := hide (HB1.out.trans (hb2.mono HB1.out.size)); clear hb2))
      go_ret
      exact ⟨ret_bool HSr.out.symm, HB2.out⟩
    | true =>
      have hl := spans_len hs
      have HTm := hide (fun (W : World) (hb : Below w.heap.size w W) => implTimely sp ns S B s d W hms hmn hnd (by rw [hl]; exact hin) (hS.old hb) (hN.old hb))
      rw [hs] at HSp HSr
      clear hv hA hN hS hin hs hl
      go_enter Tryz.func10, Tryz.ntmps10
      go_wp2_with (first | (go_at_call 17; refine HC.out.mono ?_; rintro e w1 ⟨rfl, hb1⟩; have HB1 := hide hb1; clear hb1) | (go_at_call 28; refine (HSp.out _ HB1.out).mono ?_; rintro e w2 ⟨rfl, hb2⟩; have HB2 := hide (HB1.out.trans (hb2.mono HB1.out.size)); clear hb2) | (go_at_call 38; refine (HTm.out _ HB2.out).mono ?_; rintro e w3 ⟨rfl, hb3⟩; have HB3 := hide (HB2.out.trans (hb3.mono HB2.out.size)); clear hb3))
      go_ret
      exact ⟨ret_bool HSr.out.symm, HB3.out⟩
end Go.Proofs.YtaaagoppecnmmaaGreatDoor
