/- The law FnLongestList: no list is longer; without lists there is none. -/
import Derived.Test.YtcfllpgppinofaaDoorListsD
import Derived.Test.YtcfllpgppinofaaDoorAlive
import Derived.Test.YtcfllpgppinofaaDoorSame
import Derived.Test.YtcfllpgppinofaaDoorLongest
namespace Go.Proofs.YtcfllpgppinofaaDoor
open Go.RowKit
set_option linter.unusedVariables false

theorem longest_ge (ls : List (List Int)) : ∀ x ∈ ls, x.length ≤ (longestL ls).length := by
  unfold longestL
  have : ∀ (l : List (List Int)) (a : List Int), a.length ≤ (l.foldl better a).length ∧ ∀ x ∈ l, x.length ≤ (l.foldl better a).length := by
    intro l
    induction l with
    | nil => intro a; exact ⟨Nat.le_refl _, fun x hx => by simp at hx⟩
    | cons y l ih =>
      intro a
      rw [List.foldl_cons]
      have h1 := ih (better a y)
      have h2 : a.length ≤ (better a y).length ∧ y.length ≤ (better a y).length := by
        unfold better; split <;> omega
      refine ⟨Nat.le_trans h2.1 h1.1, fun x hx => ?_⟩
      rcases List.mem_cons.1 hx with rfl | hx
      · exact Nat.le_trans h2.2 h1.1
      · exact h1.2 x hx
  exact (this ls []).2
theorem longestR_len (ls : List (List Int)) : (longestR ls).length ≤ 8 := by
  unfold longestR
  split
  · rename_i h
    exact longest_len ls 8 (listsV_short h).2
  · simp
theorem Fresh.old {w w' : World} {xs : List Int} {v : Value} (h : Fresh w w' xs v) : ∃ A c, v = .slice A xs.length c ∧ Row tInt w' (Old w') A xs := by
  obtain ⟨A, c, rfl, _, hr⟩ := h
  exact ⟨A, c, rfl, hr.mono (fun b hb => hb.2) (fun _ _ => rfl)⟩

set_option maxRecDepth 10000 in
set_option maxHeartbeats 4000000 in
theorem lawFnLongest (bs : List Int) (A : Option Addr) (c : Nat) (w : World) (hm : bs.length ≤ maxLen) (hc : bs.length ≤ c) (hcm : c ≤ maxLen) (hA : Row tByte w (Old w) A bs) :
    Calls Tryd.prog 10 #[.slice A bs.length c] w fun e w' => e = .returned (.bool true) ∧ Below w.heap.size w w' := by
  have hq : bs.length ≤ 9223372036854775807 := by simpa [maxLen] using hm
  by_cases hl : bs.length ≤ 1048576
  · have HD := hide (drawLongest bs A c w hl hc hcm hA)
    clear hA
    go_enter Tryd.func10, Tryd.ntmps10
    go_wp2_with fail
    refine HD.out.mono ?_
    rintro e w1 ⟨ls, v, rfl, hx, ho, hb1⟩
    obtain ⟨A1, c1, rfl, hle, hcm1, hR1⟩ := ho
    have HR1 := hide hR1; have HB1 := hide hb1; clear hR1 hb1
    have hxm : ls.length ≤ maxLen := by simp only [maxLen]; omega
    go_wp2_with fail
    refine (implLongestList ls A1 c1 w1 hxm HR1.out).mono ?_
    rintro e w2 ⟨v2, rfl, hf2, hb2⟩
    obtain ⟨A2, c2, rfl, hr2⟩ := hf2.old
    have HF2 := hide hr2
    have HR2 := hide (HR1.out.old hb2); have HB2 := hide (HB1.out.trans (hb2.mono HB1.out.size)); clear hb2 hf2 hr2
    go_wp2_with fail
    refine (specLongestList ls A1 c1 w2 hxm HR2.out).mono ?_
    rintro e w3 ⟨v3, rfl, hf3, hb3⟩
    obtain ⟨A3, c3, rfl, hr3⟩ := hf3.old
    have HF3 := hide hr3
    have HF2b := hide (HF2.out.old hb3)
    have HR3 := hide (HR2.out.old hb3); have HB3 := hide (HB2.out.trans (hb3.mono HB2.out.size)); clear hb3 hf3 hr3
    have hlen := longestR_len ls
    have hlm : (longestR ls).length ≤ maxLen := by simp only [maxLen]; omega
    go_wp2_with fail
    refine (sameInts_any (longestR ls) (longestR ls) A2 A3 c2 c3 w3 hlm hlm HF2b.out HF3.out).mono ?_
    rintro e w4 ⟨rfl, hb4⟩
    have HR4 := hide (HR3.out.old hb4); have HB4 := hide (HB3.out.trans (hb4.mono HB3.out.size)); clear hb4
    rw [decide_eq_true (rfl : longestR ls = longestR ls)]
    have HAl := hide alive_any
    have HI := hide (fun W (hA : Row (tSlice tInt) W (Old W) A1 ls) => implListsValid ls A1 c1 W hxm hA)
    have HN := hide (fun W => implLongestList [] none 0 W (by simp) Row.nil)
    obtain ⟨n, hn⟩ : ∃ n, n = (longestR ls).length := ⟨_, rfl⟩
    have hGe : listsV ls = true → ∀ k (h : k < ls.length), ls[k].length ≤ n := fun hv k hk => by
      rw [hn]; unfold longestR; rw [hv]; exact longest_ge ls _ (List.getElem_mem hk)
    have HGe := hide hGe
    rw [← hn] at hlen ⊢
    clear hn hGe HF2 HF2b HF3 HR1 HR2 HR3 HB1 HB2 HB3 hlm
    go_wp2_with fail
    go_loopw [5] (fun i wr => ∃ k : Nat, k ≤ ls.length ∧ i = .int .i64 k ∧ Below w.heap.size w wr ∧ Hid (Row (tSlice tInt) wr (Old wr) A1 ls)) (fun i _ => ls.length - (intOf i).toNat)
    case atStart => exact ⟨0, Nat.zero_le _, rfl, HB4.out, HR4.out⟩
    case round =>
      obtain ⟨k, hk, rfl, hb, hR⟩ := hrel
      have hempty : longestR [] = [] := by decide
      have HEm := hide hempty
      clear hempty HR4 HB4
      have HEnd : ∀ W, Below w.heap.size w W → True := fun _ _ => trivial
      clear HEnd
      by_cases hlt : (k : Int) < (ls.length : Int)
      · have hltn : k < ls.length := by omega
        have HC := hide (HI.out wr hR.out)
        cases hv : listsV ls with
        | false =>
          rw [hv] at HC
          clear hv
          go_wp2_with (first | (go_at_call 37; refine HC.out.mono ?_; rintro e w5 ⟨rfl, hb5⟩; have HB5 := hide (hb.trans (hb5.mono hb.size)); clear hb5) | (go_at_call 40; refine (HN.out _).mono ?_; rintro e w6 ⟨v6, rfl, hf6, hb6⟩; obtain ⟨A6, c6, rfl, _⟩ := hf6.old; have HB6 := hide (HB5.out.trans (hb6.mono HB5.out.size)); rw [HEm.out]; clear hb6 hf6) | (go_at_call 23; refine (HAl.out _).mono ?_; rintro e w7 ⟨rfl, hb7⟩; have HB7 := hide (HB6.out.trans (hb7.mono HB6.out.size)); clear hb7))
          go_ret
          exact ⟨rfl, HB7.out⟩
        | true =>
          rw [hv] at HC
          have hge := HGe.out hv k hltn
          clear hv
          go_wp2_with (go_at_call 37; refine HC.out.mono ?_; rintro e w5 ⟨rfl, hb5⟩; have HB5 := hide (hb.trans (hb5.mono hb.size)); have HR5 := hide (hR.out.old hb5); clear hb5; obtain ⟨b, off, A5, c5, hAe, hbS, c0, hi1, hi2, hi3⟩ := at_IntS (w := w5) HR5.out (Below.refl _ _) hltn; subst hAe; clear hi1 hi2 hi3 hbS)
          go_roundw
          case rel => exact ⟨k + 1, by omega, by go_num, HB5.out, HR5.out⟩
          case measure => simp [intOf]; omega
      · go_wp2_with (first | (go_at_call 40; refine (HN.out _).mono ?_; rintro e w6 ⟨v6, rfl, hf6, hb6⟩; obtain ⟨A6, c6, rfl, _⟩ := hf6.old; have HB6 := hide (hb.trans (hb6.mono hb.size)); rw [HEm.out]; clear hb6 hf6) | (go_at_call 23; refine (HAl.out _).mono ?_; rintro e w7 ⟨rfl, hb7⟩; have HB7 := hide (HB6.out.trans (hb7.mono HB6.out.size)); clear hb7))
        go_ret
        exact ⟨rfl, HB7.out⟩
  · clear hA
    go_enter Tryd.func10, Tryd.ntmps10
    go_wp2_with fail
    go_ret
    exact ⟨rfl, Below.refl _ _⟩
end Go.Proofs.YtcfllpgppinofaaDoor
