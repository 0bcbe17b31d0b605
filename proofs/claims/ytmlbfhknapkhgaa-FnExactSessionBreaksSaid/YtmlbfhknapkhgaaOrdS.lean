/- The reference's OrdersValid. -/
import Derived.Test.YtmlbfhknapkhgaaOrdV
import Derived.BigQuiet
namespace Go.Proofs.Ytmlbfhknapkhgaa
open Go.RowKit
set_option linter.unusedVariables false
set_option linter.unusedSimpArgs false

set_option maxRecDepth 10000 in
set_option maxHeartbeats 4000000 in
theorem specOrdersValid (xs : List Txn) (os : List (List Int)) (A B : Option Addr) (c d : Nat) (w : World) (hm : xs.length ≤ maxLen) (ht : opsN xs ≤ 1048576) (hmo : os.length ≤ 1048576) (hsz : ∀ o ∈ os, o.length ≤ 1048576) (hA : Row tTxn w (Old w) A xs) (hB : Row (tSlice tInt) w (Old w) B os) :
    Calls Try.prog 90 #[.slice A xs.length c, .slice B os.length d] w fun e w' => e = .returned (.bool (ordB xs os)) ∧ Below w.heap.size w w' := by
  have HCv := hide (fun (W : World) (hb : Below w.heap.size w W) => specHistoryValid xs A c W hm (hA.old hb) ht)
  have HIn := hide (fun (W : World) (key : Int) (hky : key = 0 ∨ key = 1 ∨ key = 2) (hb : Below w.heap.size w W) => specInstalled xs key A c W hm ht hky (hA.old hb))
  have HIr := hide (fun (hv : histV xs = true) (key : Int) => (show insR xs key = instL xs key by unfold insR; rw [if_pos hv]))
  have HIl := hide (show ∀ key : Int, (insR xs key).length ≤ maxLen from fun key => by
    unfold insR
    split
    · exact Nat.le_trans (instV_len xs key xs.length) hm
    · simp)
  have HFf := hide (show histV xs = false → ordB xs os = false from fun h => by unfold ordB; rw [h]; rfl)
  have HFl := hide (show os.length ≠ 3 → ordB xs os = false from fun h => by unfold ordB; rw [decide_eq_false h]; simp)
  have HFk := hide (show ordK xs os 3 = false → ordB xs os = false from fun h => by unfold ordB; rw [h]; simp)
  have HTt := hide (show histV xs = true → os.length = 3 → ordK xs os 3 = true → ordB xs os = true from fun h1 h2 h3 => by unfold ordB; rw [h1, decide_eq_true h2, h3]; rfl)
  have hq3 : os.length ≤ 9223372036854775807 := by omega
  have HB := hide hB; have HSz := hide hsz
  clear hA hB hsz
  go_enter Try.func90, Try.ntmps90
  go_wp2_with fail
  go_loopw [5] (fun i wr => ∃ k : Nat, k ≤ 3 ∧ k ≤ os.length ∧ i = .int .i64 k ∧ Hid (histV xs = true → ordK xs os k = true) ∧ Hid (Below w.heap.size w wr)) (fun i _ => 3 - (intOf i).toNat)
  case atStart => exact ⟨0, by omega, Nat.zero_le _, rfl, fun _ => rfl, Below.refl _ _⟩
  case round =>
    obtain ⟨k, hk3, hk, rfl, hK, hb⟩ := hrel
    have HK := hide hK.out; have HBr := hide hb.out
    clear hK hb
    by_cases h3 : k < 3
    · have hd3 : decide ((k : Int) ≤ 2) = true := decide_eq_true (by omega)
      by_cases hlt : k < os.length
      · obtain ⟨b, off, A2, c2, hBe, hbS, d0, hs1, hs2, hs3⟩ := at_IntS HB.out HBr.out hlt
        subst hBe
        have hol := HSz.out _ (List.getElem_mem hlt)
        have HSu := hide (ordK_succ xs os k)
        have HSt := hide (ordK_stop (h := xs) (os := os) (k := k) (n := 3) h3)
        rw [getD_at hlt] at HSu HSt
        have HIk := hide (fun hv => HIr.out hv (k : Int))
        have hil := HIl.out (k : Int)
        have HI1 := hide (HIn.out wr.drew (k : Int) (by omega) HBr.out.drew)
        generalize os[k] = O at d0 hs1 hs3 hol HSu HSt
        generalize insR xs (k : Int) = I at HIk hil HI1
        have HSa := hide (fun (W : World) (A1 : Option Addr) (c1 : Nat) (hb : Below wr.heap.size wr W) (h2 : Row tInt W (Old W) A1 I) => specSame O I A2 A1 c2 c1 W (by simp only [maxLen]; omega) hil (hs3.old hb) h2)
        clear hs3
        have hbw : b < wr.heap.size := Nat.lt_of_lt_of_le hbS HBr.out.size
        cases hs : sameB O I with
        | false =>
          have HF := hide (show ordB xs os = false by
            cases hv : histV xs with
            | false => exact HFf.out hv
            | true => exact HFk.out (HSt.out (by rw [← HIk.out hv]; exact hs)))
          rw [hs] at HSa
          clear hs HSu HSt HIk
          go_upto_region 4 with (fail)
          go_region_held3 (fun V => V.cell? ⟨b, off + k, none⟩ = some (.slice A2 O.length c2))
            (first
              | ((try dsimp only); exact d0)
              | ((try dsimp only); exact d4)
              | ((try dsimp only); exact d5)
              | go_keep)
            ((first
              | (go_at_call 137; refine HI1.out.mono ?_; rintro e w4 ⟨v4, rfl, hO4, hb4⟩; obtain ⟨A4, c4, rfl, h41, h42, h43⟩ := hO4.sl; have HR4 := hide (h43.mono (S' := Old w4) (fun b h => h.2) (fun _ _ => rfl)); have HX4 := hide ((Below.refl _ wr).drew.trans hb4); have d4 := (hb4.cell (p := ⟨b, off + k, none⟩) hbw).trans d0; clear hb4 hO4 h43)
              | (go_at_call 129; refine (HSa.out _ _ _ HX4.out HR4.out).mono ?_; rintro e w5 ⟨rfl, hb5⟩; have HX5 := hide (HX4.out.trans (hb5.mono HX4.out.size)); have d5 := (hb5.cell (p := ⟨b, off + k, none⟩) (Nat.lt_of_lt_of_le hbw HX4.out.size)).trans d4; clear hb5)))
          go_wp2_with fail
          go_ret
          exact ⟨ret_bool HF.out.symm, HBr.out.trans (HX5.out.mono HBr.out.size)⟩
        | true =>
          have HK2 := hide (show histV xs = true → ordK xs os (k + 1) = true from fun hv => by rw [HSu.out, HK.out hv, ← HIk.out hv, hs]; rfl)
          rw [hs] at HSa
          clear hs HSu HSt HIk
          go_upto_region 4 with (fail)
          go_region_held3 (fun V => V.cell? ⟨b, off + k, none⟩ = some (.slice A2 O.length c2))
            (first
              | ((try dsimp only); exact d0)
              | ((try dsimp only); exact d4)
              | ((try dsimp only); exact d5)
              | go_keep)
            ((first
              | (go_at_call 137; refine HI1.out.mono ?_; rintro e w4 ⟨v4, rfl, hO4, hb4⟩; obtain ⟨A4, c4, rfl, h41, h42, h43⟩ := hO4.sl; have HR4 := hide (h43.mono (S' := Old w4) (fun b h => h.2) (fun _ _ => rfl)); have HX4 := hide ((Below.refl _ wr).drew.trans hb4); have d4 := (hb4.cell (p := ⟨b, off + k, none⟩) hbw).trans d0; clear hb4 hO4 h43)
              | (go_at_call 129; refine (HSa.out _ _ _ HX4.out HR4.out).mono ?_; rintro e w5 ⟨rfl, hb5⟩; have HX5 := hide (HX4.out.trans (hb5.mono HX4.out.size)); have d5 := (hb5.cell (p := ⟨b, off + k, none⟩) (Nat.lt_of_lt_of_le hbw HX4.out.size)).trans d4; clear hb5)))
          go_wp2_with fail
          go_roundw
          case rel => exact ⟨k + 1, by omega, by omega, by go_num, HK2.out, HBr.out.trans (HX5.out.mono HBr.out.size)⟩
          case measure => simp [intOf]; omega
      · have HCk := hide (HCv.out _ HBr.out)
        have hl3 : ((os.length : Int) == 3) = false := by rw [beq_eq_false_iff_ne]; omega
        have HF := hide (HFl.out (by omega))
        have hlk : decide ((k : Int) < (os.length : Int)) = false := decide_eq_false (by omega)
        cases hv : histV xs with
        | false =>
          rw [hv] at HCk
          clear hv
          go_wp2_with (go_at_call 49; refine HCk.out.mono ?_; rintro e w2 ⟨rfl, hb2⟩; have HB2 := hide (HBr.out.trans (hb2.mono HBr.out.size)); clear hb2)
          go_ret
          exact ⟨ret_bool HF.out.symm, HB2.out⟩
        | true =>
          rw [hv] at HCk
          clear hv
          go_wp2_with (go_at_call 49; refine HCk.out.mono ?_; rintro e w2 ⟨rfl, hb2⟩; have HB2 := hide (HBr.out.trans (hb2.mono HBr.out.size)); clear hb2)
          go_ret
          exact ⟨ret_bool HF.out.symm, HB2.out⟩
    · obtain rfl : k = 3 := by omega
      have HCk := hide (HCv.out _ HBr.out)
      cases hv : histV xs with
      | false =>
        have HF := hide (HFf.out hv)
        rw [hv] at HCk
        clear hv
        go_wp2_with (go_at_call 49; refine HCk.out.mono ?_; rintro e w2 ⟨rfl, hb2⟩; have HB2 := hide (HBr.out.trans (hb2.mono HBr.out.size)); clear hb2)
        go_ret
        exact ⟨ret_bool HF.out.symm, HB2.out⟩
      | true =>
        rw [hv] at HCk
        by_cases hl : os.length = 3
        · have hl3 : ((os.length : Int) == 3) = true := by rw [beq_iff_eq]; omega
          have HT := hide (HTt.out hv hl (HK.out hv))
          clear hv hl
          go_wp2_with (go_at_call 49; refine HCk.out.mono ?_; rintro e w2 ⟨rfl, hb2⟩; have HB2 := hide (HBr.out.trans (hb2.mono HBr.out.size)); clear hb2)
          go_ret
          exact ⟨ret_bool HT.out.symm, HB2.out⟩
        · have hl3 : ((os.length : Int) == 3) = false := by rw [beq_eq_false_iff_ne]; omega
          have HF := hide (HFl.out hl)
          clear hv hl
          go_wp2_with (go_at_call 49; refine HCk.out.mono ?_; rintro e w2 ⟨rfl, hb2⟩; have HB2 := hide (HBr.out.trans (hb2.mono HBr.out.size)); clear hb2)
          go_ret
          exact ⟨ret_bool HF.out.symm, HB2.out⟩
end Go.Proofs.Ytmlbfhknapkhgaa
