/- The program's SnapshotRight. -/
import Derived.Test.YtaaagoppecnmmaaGreatDoorSnapI
namespace Go.Proofs.YtaaagoppecnmmaaGreatDoor
open Go.RowKit Go.Maps
set_option linter.unusedVariables false
set_option linter.unusedSimpArgs false

def srB (h : List Txn) (p : List Int) : Bool := histV h && fineB h && decide (p.length = 2 * (doneL h).length) && (snapRun h SS0 p).isSome
theorem comm_up (b : St) : ∀ (l : List Op) (v u : St) (q : St × St), comm b l (v, u) = some q → ∀ key, u key ≤ q.2 key ∧ q.2 key ≤ u key + l.length
  | [], v, u, q, h, key => by cases h; simp
  | o :: r, v, u, q, h, key => by
    unfold comm at h
    split at h
    · have := comm_up b r _ _ q h key
      rw [List.length_cons]
      have hp : (u.put o.Key (u o.Key + 1)) key = if key = o.Key then u o.Key + 1 else u key := rfl
      dsimp only at h this ⊢
      rw [hp] at this
      split at this
      · rename_i hk; subst hk; omega
      · omega
    · cases h
theorem snapNext_ver {h : List Txn} {S S' : SS} {n : Int} (hn : snapNext h S n = some S') (key : Int) : S.ver key ≤ S'.ver key ∧ S'.ver key ≤ S.ver key + 3 := by
  unfold snapNext at hn
  split at hn
  · split at hn
    · split at hn
      · cases hn; simp; omega
      · cases hn
    · cases hc : comm (S.beg n) (lastWs (opsOf h n)) (S.val, S.ver) with
      | none => rw [hc] at hn; cases hn
      | some q =>
        rw [hc] at hn
        have := comm_up _ _ _ _ q hc key
        have := lastWs_len (opsOf h n)
        cases hn
        simp only
        omega
  · cases hn
theorem snapRun_ver {h : List Txn} : ∀ {p : List Int} {S S' : SS}, snapRun h S p = some S' → ∀ key, S.ver key ≤ S'.ver key ∧ S'.ver key ≤ S.ver key + 3 * p.length
  | [], S, S', hr, key => by cases hr; simp
  | n :: r, S, S', hr, key => by
    rw [snapRun] at hr
    cases hn : snapNext h S n with
    | none => rw [hn] at hr; cases hr
    | some S1 =>
      rw [hn] at hr
      have h1 := snapNext_ver hn key
      have h2 := snapRun_ver (S := S1) hr key
      rw [List.length_cons]
      omega
theorem snapRun_take (h : List Txn) (p : List Int) (k : Nat) (hk : k < p.length) (S : SS) (hS : snapRun h SS0 (p.take k) = some S) : snapRun h SS0 (p.take (k + 1)) = snapNext h S p[k] := by
  rw [List.take_succ_eq_append_getElem hk, snapRun_snoc, hS]; rfl
theorem snapRun_stop (h : List Txn) (p : List Int) (k : Nat) (hk : k < p.length) (S : SS) (hS : snapRun h SS0 (p.take k) = some S) (hn : snapNext h S p[k] = none) : snapRun h SS0 p = none := by
  have e : p.take k ++ p[k] :: p.drop (k + 1) = p := by rw [← List.drop_eq_getElem_cons hk, List.take_append_drop]
  rw [← e, snapRun_append, hS]
  simp only [Option.bind_some, snapRun, hn, Option.bind_none]
theorem snapNext_out (h : List Txn) (S : SS) (n : Int) (hn : inR n 0 ((h.length : Int) - 1) = false) : snapNext h S n = none := by
  unfold snapNext
  rw [if_neg]
  intro e
  rw [Bool.and_eq_true] at e
  have e1 := e.1
  unfold dneOf at e1
  simp only [Bool.and_eq_true, decide_eq_true_eq] at e1
  have := inR_iff.2 (show 0 ≤ n ∧ n ≤ (h.length : Int) - 1 by omega)
  rw [hn] at this; cases this
theorem snapC_zero : snapC SS0 0 0 = #[.int .i64 0, .int .i64 0, .int .i64 0, .int .i64 0, .int .i64 0, .int .i64 0, .int .i64 0, .int .i64 0, .int .i64 0, .int .i64 0, .int .i64 0, .int .i64 0, .int .i64 0, .int .i64 0, .int .i64 0, .int .i64 0, .int .i64 0, .int .i64 0, .int .i64 0, .int .i64 0, .int .i64 0, .int .i64 0, .int .i64 0, .int .i64 0, .int .u64 0, .int .u64 0] := by kernel_rfl
set_option maxRecDepth 10000 in
set_option maxHeartbeats 4000000 in
theorem implSnapshotRight (xs : List Txn) (ns : List Int) (A B : Option Addr) (c d : Nat) (w : World) (hm : xs.length ≤ maxLen) (hmn : ns.length ≤ 1048576) (hA : Row tTxn w (Old w) A xs) (hN : Row tInt w (Old w) B ns) :
    Calls Tryz.prog 21 #[.slice A xs.length c, .slice B ns.length d] w fun e w' => e = .returned (.bool (srB xs ns)) ∧ Below w.heap.size w w' := by
  have HC := hide (implHistoryValid xs A c w hm hA)
  have HA := hide hA; have HN := hide hN
  have hq : xs.length ≤ 9223372036854775807 := by simpa [maxLen] using hm
  have hqn : ns.length ≤ 9223372036854775807 := by omega
  have HSr := hide (show srB xs ns = (histV xs && fineB xs && decide (ns.length = 2 * (doneL xs).length) && (snapRun xs SS0 ns).isSome) from rfl)
  clear hA hN
  cases hv : histV xs with
  | false =>
    rw [hv] at HC HSr
    clear hv hm
    go_enter Tryz.func21, Tryz.ntmps21
    go_wp2_with (go_at_call 27; refine HC.out.mono ?_; rintro e w1 ⟨rfl, hb1⟩; have HB1 := hide hb1; clear hb1)
    go_ret
    exact ⟨ret_bool HSr.out.symm, HB1.out⟩
  | true =>
    have hx6 : xs.length ≤ 6 := (histV_parts hv).1
    have HFi := hide (fun (W : World) (hb : Below w.heap.size w W) => implOwnFine xs A c W hv hm (HA.out.old hb))
    have HDn := hide (fun (W : World) (hb : Below w.heap.size w W) => implDone xs A c W (by omega) (HA.out.old hb))
    have HNx := hide (fun (S : SS) (bg cm n bs : Nat) (W : World) => next_any xs A c S bg cm n bs W hv)
    have hdl : (doneL xs).length ≤ 6 := Nat.le_trans (doneI_len xs _) hx6
    rw [hv] at HC HSr
    clear hv hm
    cases hfi : fineB xs with
    | false =>
      rw [hfi] at HFi HSr
      clear hfi
      go_enter Tryz.func21, Tryz.ntmps21
      go_wp2_with (first | (go_at_call 27; refine HC.out.mono ?_; rintro e w1 ⟨rfl, hb1⟩; have HB1 := hide hb1; clear hb1) | (go_at_call 58; refine (HFi.out _ HB1.out).mono ?_; rintro e w2 ⟨rfl, hb2⟩; have HB2 := hide (HB1.out.trans (hb2.mono HB1.out.size)); clear hb2))
      go_ret
      exact ⟨ret_bool HSr.out.symm, HB2.out⟩
    | true =>
      rw [hfi] at HFi HSr
      clear hfi
      generalize doneL xs = D at HDn HSr hdl
      by_cases hl : ns.length = 2 * D.length
      · have hli : ((ns.length : Int) != 2 * (D.length : Int)) = false := by rw [bne_eq_false_iff_eq]; omega
        have HSr := hide (show srB xs ns = (snapRun xs SS0 ns).isSome by rw [HSr.out, decide_eq_true hl]; rfl)
        have hn12 : ns.length ≤ 12 := by omega
        clear hl
        go_enter Tryz.func21, Tryz.ntmps21
        go_wp2_with (first | (go_at_call 27; refine HC.out.mono ?_; rintro e w1 ⟨rfl, hb1⟩; have HB1 := hide hb1; clear hb1) | (go_at_call 58; refine (HFi.out _ HB1.out).mono ?_; rintro e w2 ⟨rfl, hb2⟩; have HB2 := hide (HB1.out.trans (hb2.mono HB1.out.size)); clear hb2) | (go_at_call 42; refine (HDn.out _ HB2.out).mono ?_; rintro e w3 ⟨v3, rfl, hO3, hb3⟩; obtain ⟨A3, c3, rfl, h31, h32, _⟩ := hO3.sl; have HB3 := hide (HB2.out.trans (hb3.mono HB2.out.size)); clear hb3 hO3))
        generalize hW : w3.alloc _ = W
        have hsW : W.heap.size = w3.heap.size + 1 := by rw [← hW]; simp
        have HBk := hide (show Blk W w3.heap.size 84 (snapC SS0 0 0) by rw [← hW, snapC_zero]; exact Blk.new w3 _ _)
        have HB4 := hide (show Below w.heap.size w W by rw [← hW]; exact HB3.out.alloc HB3.out.size _)
        have hw3 := HB3.out.size
        clear hW
        go_loopw [7, 29] (fun _ i wr => ∃ (k : Nat) (S : SS) (bg cm : Nat), k ≤ ns.length ∧ i = .int .i64 k ∧ Hid (snapRun xs SS0 (ns.take k) = some S) ∧ Hid (Blk wr w3.heap.size 84 (snapC S bg cm)) ∧ Hid (Bits1 bg S.seen) ∧ Hid (Bits2 cm S.seen) ∧ Hid (Only (fun b => b = w3.heap.size) W wr)) (fun _ i _ => ns.length - (intOf i).toNat)
        case atStart => exact ⟨0, SS0, 0, 0, Nat.zero_le _, rfl, rfl, HBk.out, Bits1.zero, Bits2.zero, Only.refl _ _⟩
        case round =>
          obtain ⟨k, S, bg, cm, hk, rfl, hS, hBk, h1, h2, hO⟩ := hrel
          have HS := hide hS.out; have HBk := hide hBk.out; have H1 := hide h1.out; have H2 := hide h2.out; have HO := hide hO.out
          have HBr := hide (below_only HB4.out hO.out HB4.out.size (fun i h => by omega))
          clear hS hBk h1 h2 hO
          by_cases hlt : k < ns.length
          · obtain ⟨b, off, rfl, hbS, d0⟩ := at_Int HN.out HBr.out hlt
            have HTk := hide (snapRun_take xs ns k hlt S HS.out)
            have HSp := hide (snapRun_stop xs ns k hlt S HS.out)
            have hver : ∀ key, 0 ≤ S.ver key ∧ S.ver key ≤ 1000 := fun key => by
              have h9 := snapRun_ver HS.out key
              rw [List.length_take] at h9
              have : SS0.ver key = 0 := rfl
              omega
            cases hin : inR ns[k] 0 ((xs.length : Int) - 1) with
            | false =>
              have HF := hide (show srB xs ns = false by rw [HSr.out, HSp.out (snapNext_out xs S _ hin)]; rfl)
              clear HTk HSp hver
              go_wp2_with (go_at_call 51; refine (within _ _ _ _).mono ?_; rintro e w' ⟨rfl, rfl⟩; rw [hin])
              go_ret
              exact ⟨ret_bool HF.out.symm, HBr.out⟩
            | true =>
              obtain ⟨hn0, hn1⟩ := inR_iff.1 hin
              obtain ⟨n, hn⟩ : ∃ n : Nat, ns[k] = (n : Int) := ⟨ns[k].toNat, by omega⟩
              have hnl : n < xs.length := by omega
              rw [hn] at d0 hin HTk HSp
              have HNc := hide (HNx.out S bg cm n w3.heap.size wr hnl HBk.out H1.out H2.out hver (HA.out.mono (fun b hb => ⟨Nat.lt_of_lt_of_le hb HBr.out.size, by unfold Old at hb; omega⟩) (fun b hb => HBr.out.block b hb)))
              have hn0' : ns[k].toNat = n := by omega
              clear hver hn hn0 hn1 HS
              go_wp2_with (go_at_call 51; refine (within _ _ _ _).mono ?_; rintro e w' ⟨rfl, rfl⟩; rw [hin])
              refine HNc.out.mono ?_
              rintro e w6 ⟨hP, hO6⟩
              have HO6 := hide (HO.out.trans hO6)
              have HB6 := hide (below_only HBr.out hO6 HBr.out.size (fun i h => by omega))
              clear hO6
              rcases hP with ⟨S', bg', cm', hs', rfl, hB', hb1, hb2⟩ | ⟨hs', rfl⟩
              · have HS2 := hide (HTk.out.trans hs')
                have HB' := hide hB'; have Hb1 := hide hb1; have Hb2 := hide hb2
                clear hs' hB' hb1 hb2 HTk HSp
                go_wp2_with fail
                go_roundw
                case rel => exact ⟨k + 1, S', bg', cm', by omega, by go_num, HS2.out, HB'.out, Hb1.out, Hb2.out, HO6.out⟩
                case measure => simp [intOf]; omega
              · have HF := hide (show srB xs ns = false by rw [HSr.out, HSp.out hs']; rfl)
                clear hs' HTk HSp
                go_wp2_with fail
                go_ret
                exact ⟨ret_bool HF.out.symm, HB6.out⟩
          · obtain rfl : k = ns.length := by omega
            have HT := hide (show srB xs ns = true by have h := HS.out; rw [List.take_length] at h; rw [HSr.out, h]; rfl)
            clear HS
            go_wp2_with fail
            go_ret
            exact ⟨ret_bool HT.out.symm, HBr.out⟩
      · have hli : ((ns.length : Int) != 2 * (D.length : Int)) = true := by rw [bne_iff_ne]; omega
        have HSr := hide (show srB xs ns = false by rw [HSr.out, decide_eq_false hl]; rfl)
        clear hl
        go_enter Tryz.func21, Tryz.ntmps21
        go_wp2_with (first | (go_at_call 27; refine HC.out.mono ?_; rintro e w1 ⟨rfl, hb1⟩; have HB1 := hide hb1; clear hb1) | (go_at_call 58; refine (HFi.out _ HB1.out).mono ?_; rintro e w2 ⟨rfl, hb2⟩; have HB2 := hide (HB1.out.trans (hb2.mono HB1.out.size)); clear hb2) | (go_at_call 42; refine (HDn.out _ HB2.out).mono ?_; rintro e w3 ⟨v3, rfl, hO3, hb3⟩; obtain ⟨A3, c3, rfl, h31, h32, _⟩ := hO3.sl; have HB3 := hide (HB2.out.trans (hb3.mono HB2.out.size)); clear hb3 hO3))
        go_ret
        exact ⟨ret_bool HSr.out.symm, HB3.out⟩
end Go.Proofs.YtaaagoppecnmmaaGreatDoor
