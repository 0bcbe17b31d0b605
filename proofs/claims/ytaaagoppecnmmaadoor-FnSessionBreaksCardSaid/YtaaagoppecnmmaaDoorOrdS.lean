/- The two OrdersValid. The reference's OrdersValid. -/
import Derived.Test.YtaaagoppecnmmaaDoorSame7
import Derived.Test.YtaaagoppecnmmaaDoorInsS
import Derived.Test.YtaaagoppecnmmaaDoorEqualI
import Derived.BigQuiet
namespace Go.Proofs.YtaaagoppecnmmaaDoor
open Go.RowKit
set_option linter.unusedVariables false
set_option linter.unusedSimpArgs false

def ordK (h : List Txn) (os : List (List Int)) (n : Nat) : Bool := (List.range n).all fun k => sameB (os.getD k []) (instL h (k : Int))
def ordB (h : List Txn) (os : List (List Int)) : Bool := histV h && (decide (os.length = 3) && ordK h os 3)
theorem ordK_succ (h : List Txn) (os : List (List Int)) (n : Nat) : ordK h os (n + 1) = (ordK h os n && sameB (os.getD n []) (instL h (n : Int))) := by
  unfold ordK
  rw [List.range_succ, List.all_append]
  simp
theorem ordK_stop {h : List Txn} {os : List (List Int)} {k n : Nat} (hk : k < n) (hs : sameB (os.getD k []) (instL h (k : Int)) = false) : ordK h os n = false := by
  unfold ordK
  rw [List.all_eq_false]
  exact ⟨k, List.mem_range.2 hk, by rw [hs]; simp⟩
theorem getD_at {os : List (List Int)} {k : Nat} (hk : k < os.length) : os.getD k [] = os[k] := by
  rw [List.getD_eq_getElem?_getD, List.getElem?_eq_getElem hk]; rfl
theorem srt_same {h : List Txn} (hv : histV h = true) (a : List Int) (key : Int) : decide (srt a = srt (instL h key)) = sameB a (instL h key) := by
  rw [Bool.eq_iff_iff, decide_eq_true_iff, same_iff (instL_nodup hv key), srt_eq]
set_option maxRecDepth 10000 in
set_option maxHeartbeats 4000000 in
theorem implOrdersValid (xs : List Txn) (os : List (List Int)) (A B : Option Addr) (c d : Nat) (w : World) (hm : xs.length ≤ maxLen) (hmo : os.length ≤ 1048576) (hsz : ∀ o ∈ os, o.length ≤ 1048576) (hA : Row tTxn w (Old w) A xs) (hB : Row (tSlice tInt) w (Old w) B os) :
    Calls Tryd.prog 94 #[.slice A xs.length c, .slice B os.length d] w fun e w' => e = .returned (.bool (ordB xs os)) ∧ Below w.heap.size w w' := by
  have HC := hide (implHistoryValid xs A c w hm hA)
  have HSr := hide (show ordB xs os = (histV xs && (decide (os.length = 3) && ordK xs os 3)) from rfl)
  cases hv : histV xs with
  | false =>
    rw [hv] at HC HSr
    clear hv hA hB
    go_enter Tryd.func94, Tryd.ntmps94
    go_wp2_with (go_at_call 18; refine HC.out.mono ?_; rintro e w1 ⟨rfl, hb1⟩; have HB1 := hide hb1; clear hb1)
    go_ret
    exact ⟨ret_bool HSr.out.symm, HB1.out⟩
  | true =>
    by_cases hl : os.length = 3
    · have hx6 : xs.length ≤ 6 := (histV_parts hv).1
      have hVm := fun (a : List Int) (key : Int) => srt_same hv a key
      have HIn := hide (fun (W : World) (key : Int) (hky : key = 0 ∨ key = 1 ∨ key = 2) (hb : Below w.heap.size w W) => implInstalled xs key A c W hv hky (hA.old hb))
      rw [hv] at HC HSr
      have HSr := hide (show ordB xs os = ordK xs os 3 by rw [HSr.out, decide_eq_true hl]; rfl)
      have hli : ((os.length : Int) != 3) = false := by rw [bne_eq_false_iff_eq]; omega
      have HVl := hide (fun (W : World) (A1 : Option Addr) (n d1 : Nat) => (callsIn_wide (n := 1)).1 (vals_in 1 A1 n d1 W))
      have HSo := hide (fun (W : World) (zs : List Int) (A1 : Option Addr) (d1 : Nat) (hz : zs.length ≤ 1048576) (h1 : Row tInt W (Old W) A1 zs) => sorted_vals W.heap.size zs A1 d1 hz (W.alloc (.cells #[.slice A1 zs.length d1] 30)) (by simp) (Boxed.new W _ _).cell (h1.old ((Below.refl _ W).alloc (Nat.le_refl _) _)))
      have HVm := hide hVm
      have HB := hide hB; have HSz := hide hsz
      have hil := fun key : Int => instV_len xs key xs.length
      have HIl := hide hil
      clear hv hA hB hVm hil hsz
      go_enter Tryd.func94, Tryd.ntmps94
      go_wp2_with (go_at_call 18; refine HC.out.mono ?_; rintro e w1 ⟨rfl, hb1⟩; have HB1 := hide hb1; clear hb1)
      have hq3 : os.length ≤ 9223372036854775807 := by omega
      go_loopw [5, 6, 7, 8, 19] (fun _ _ _ _ i wr => ∃ k : Nat, k ≤ os.length ∧ i = .int .i64 k ∧ Hid (ordK xs os k = true) ∧ Hid (Below w.heap.size w wr)) (fun _ _ _ _ i _ => os.length - (intOf i).toNat)
      case atStart => exact ⟨0, Nat.zero_le _, rfl, rfl, HB1.out⟩
      case round =>
        obtain ⟨k, hk, rfl, hK, hb⟩ := hrel
        have HK := hide hK.out; have HBr := hide hb.out
        clear hK hb
        by_cases hlt : k < os.length
        · obtain ⟨b, off, A2, c2, rfl, hbS, d0, hs1, hs2, hs3⟩ := at_IntS HB.out HBr.out hlt
          have hol := HSz.out _ (List.getElem_mem hlt)
          have hkl := HIl.out (k : Int)
          rw [show instV xs (k : Int) xs.length = instL xs (k : Int) from rfl] at hkl
          have HSu := hide (ordK_succ xs os k)
          have HSt := hide (ordK_stop (h := xs) (os := os) (k := k) (n := 3) (by omega))
          rw [getD_at hlt] at HSu HSt
          have HVk := hide (HVm.out os[k] (k : Int))
          have HI1 := hide (fun (W : World) (hb : Below w.heap.size w W) => HIn.out W (k : Int) (by omega) hb)
          have HS1 := hide (HSo.out wr os[k] A2 c2 hol hs3)
          generalize os[k] = O at d0 hs1 hs3 hol HSu HSt HVk HS1
          generalize instL xs (k : Int) = I at hkl HSu HSt HVk HI1
          have hoq : (srt O).length ≤ maxLen := by rw [srt_len]; simp only [maxLen]; omega
          have hiq : (srt I).length ≤ maxLen := by rw [srt_len]; simp only [maxLen]; omega
          have HEq := hide (fun (W : World) (A1 A2 : Option Addr) (c1 c2 : Nat) (h1 : Row tInt W (Old W) A1 (srt O)) (h2 : Row tInt W (Old W) A2 (srt I)) => equal_Int (srt O) (srt I) A1 A2 c1 c2 W hoq hiq h1 h2)
          rw [HVk.out] at HEq
          have tok1 : True := trivial
          have hI6 : I.length ≤ 1048576 := by omega
          cases hs : sameB O I with
          | false =>
            rw [hs] at HEq
            have HF := hide (show ordB xs os = false by rw [HSr.out]; exact HSt.out hs)
            clear hs HSu HSt HVk
            go_wp2_with (first
              | (have _t := tok1; go_at_call 90; refine HS1.out.mono ?_; rintro e w3 ⟨v3, rfl, hO3, hb3⟩; obtain ⟨A3, c3, rfl, h31, h32, h33⟩ := hO3.sl; have HR3 := hide (h33.mono (S' := Old w3) (fun b h => h.2) (fun _ _ => rfl)); have HB3 := hide ((HBr.out.alloc HBr.out.size (.cells #[.slice A2 O.length c2] 30)).trans (hb3.mono (by have := HBr.out.size; simp; omega))); clear hb3 hO3 h33; clear tok1)
              | (go_at_call 144; refine (HI1.out _ HB3.out).mono ?_; rintro e w4 ⟨v4, rfl, hO4, hb4⟩; obtain ⟨A4, c4, rfl, h41, h42, h43⟩ := hO4.sl; have HR4 := hide (h43.mono (S' := Old w4) (fun b h => h.2) (fun _ _ => rfl)); have HR34 := hide (HR3.out.old hb4); have HB4 := hide (HB3.out.trans (hb4.mono HB3.out.size)); clear hb4 hO4 h43)
              | (go_at_call 90; refine (HSo.out w4 I A4 c4 hI6 HR4.out).mono ?_; rintro e w6 ⟨v6, rfl, hO6, hb6⟩; obtain ⟨A6, c6, rfl, h61, h62, h63⟩ := hO6.sl; have HR6 := hide (h63.mono (S' := Old w6) (fun b h => h.2) (fun _ _ => rfl)); have HR36 := hide ((HR34.out.old ((Below.refl _ w4).alloc (Nat.le_refl _) _)).old hb6); have HB6 := hide ((HB4.out.alloc HB4.out.size (.cells #[.slice A4 I.length c4] 30)).trans (hb6.mono (by have := HB4.out.size; simp; omega))); clear hb6 hO6 h63)
              | (go_at_call 91; refine (HVl.out _ _ _ _).mono ?_; rintro e w2 ⟨rfl, rfl⟩)
              | (go_at_call 89; refine (HEq.out _ _ _ _ _ HR36.out HR6.out).mono ?_; rintro e w7 ⟨rfl, hb7⟩; have HB7 := hide (HB6.out.trans (hb7.below.mono HB6.out.size)); clear hb7))
            go_ret
            exact ⟨ret_bool HF.out.symm, HB7.out⟩
          | true =>
            rw [hs] at HEq
            have HK2 := hide (show ordK xs os (k + 1) = true by rw [HSu.out, HK.out, hs]; rfl)
            clear hs HSu HSt HVk
            go_wp2_with (first
              | (have _t := tok1; go_at_call 90; refine HS1.out.mono ?_; rintro e w3 ⟨v3, rfl, hO3, hb3⟩; obtain ⟨A3, c3, rfl, h31, h32, h33⟩ := hO3.sl; have HR3 := hide (h33.mono (S' := Old w3) (fun b h => h.2) (fun _ _ => rfl)); have HB3 := hide ((HBr.out.alloc HBr.out.size (.cells #[.slice A2 O.length c2] 30)).trans (hb3.mono (by have := HBr.out.size; simp; omega))); clear hb3 hO3 h33; clear tok1)
              | (go_at_call 144; refine (HI1.out _ HB3.out).mono ?_; rintro e w4 ⟨v4, rfl, hO4, hb4⟩; obtain ⟨A4, c4, rfl, h41, h42, h43⟩ := hO4.sl; have HR4 := hide (h43.mono (S' := Old w4) (fun b h => h.2) (fun _ _ => rfl)); have HR34 := hide (HR3.out.old hb4); have HB4 := hide (HB3.out.trans (hb4.mono HB3.out.size)); clear hb4 hO4 h43)
              | (go_at_call 90; refine (HSo.out w4 I A4 c4 hI6 HR4.out).mono ?_; rintro e w6 ⟨v6, rfl, hO6, hb6⟩; obtain ⟨A6, c6, rfl, h61, h62, h63⟩ := hO6.sl; have HR6 := hide (h63.mono (S' := Old w6) (fun b h => h.2) (fun _ _ => rfl)); have HR36 := hide ((HR34.out.old ((Below.refl _ w4).alloc (Nat.le_refl _) _)).old hb6); have HB6 := hide ((HB4.out.alloc HB4.out.size (.cells #[.slice A4 I.length c4] 30)).trans (hb6.mono (by have := HB4.out.size; simp; omega))); clear hb6 hO6 h63)
              | (go_at_call 91; refine (HVl.out _ _ _ _).mono ?_; rintro e w2 ⟨rfl, rfl⟩)
              | (go_at_call 89; refine (HEq.out _ _ _ _ _ HR36.out HR6.out).mono ?_; rintro e w7 ⟨rfl, hb7⟩; have HB7 := hide (HB6.out.trans (hb7.below.mono HB6.out.size)); clear hb7))
            go_roundw
            case rel => exact ⟨k + 1, by omega, by go_num, HK2.out, HB7.out⟩
            case measure => simp [intOf]; omega
        · obtain rfl : k = os.length := by omega
          have HF := hide (show ordB xs os = true by rw [HSr.out, ← hl]; exact HK.out)
          go_wp2_with fail
          go_ret
          exact ⟨ret_bool HF.out.symm, HBr.out⟩
    · rw [hv] at HC HSr
      have HSr := hide (show ordB xs os = false by rw [HSr.out, decide_eq_false hl]; rfl)
      have hli : ((os.length : Int) != 3) = true := by rw [bne_iff_ne]; omega
      clear hv hA hB hl
      go_enter Tryd.func94, Tryd.ntmps94
      go_wp2_with (go_at_call 18; refine HC.out.mono ?_; rintro e w1 ⟨rfl, hb1⟩; have HB1 := hide hb1; clear hb1)
      go_ret
      exact ⟨ret_bool HSr.out.symm, HB1.out⟩
set_option maxRecDepth 10000 in
set_option maxHeartbeats 4000000 in
theorem specOrdersValid (xs : List Txn) (os : List (List Int)) (A B : Option Addr) (c d : Nat) (w : World) (hm : xs.length ≤ maxLen) (ht : opsN xs ≤ 1048576) (hmo : os.length ≤ 1048576) (hsz : ∀ o ∈ os, o.length ≤ 1048576) (hA : Row tTxn w (Old w) A xs) (hB : Row (tSlice tInt) w (Old w) B os) :
    Calls Tryd.prog 97 #[.slice A xs.length c, .slice B os.length d] w fun e w' => e = .returned (.bool (ordB xs os)) ∧ Below w.heap.size w w' := by
  have HCv := hide (fun (W : World) (hb : Below w.heap.size w W) => specHistoryValid xs A c W hm (hA.old hb) ht)
  have HIn := hide (fun (W : World) (key : Int) (hky : key = 0 ∨ key = 1 ∨ key = 2) (hb : Below w.heap.size w W) => specInstalled xs key A c W hm ht hky (hA.old hb))
  have HIr := hide (fun (hv : histV xs = true) (key : Int) => (show insR xs key = instL xs key by unfold insR; rw [if_pos hv]))
  have HIl := hide (show ∀ key : Int, (insR xs key).length ≤ maxLen from fun key => by
    unfold insR
    split
    · exact Nat.le_trans (instV_len xs key xs.length) hm
    · simp)
  have HFf := hide (show histV xs = false → ordB xs os = false from fun h => by unfold ordB; rw [h]; rfl)
  have HFl := hide (show os.length ≠ 3 → ordB xs os = false from fun h => by unfold ordB; rw [decide_eq_false h]; simp)
  have HFk := hide (show ordK xs os 3 = false → ordB xs os = false from fun h => by unfold ordB; rw [h]; simp)
  have HTt := hide (show histV xs = true → os.length = 3 → ordK xs os 3 = true → ordB xs os = true from fun h1 h2 h3 => by unfold ordB; rw [h1, decide_eq_true h2, h3]; rfl)
  have hq3 : os.length ≤ 9223372036854775807 := by omega
  have HB := hide hB; have HSz := hide hsz
  clear hA hB hsz
  go_enter Tryd.func97, Tryd.ntmps97
  go_wp2_with fail
  go_loopw [5] (fun i wr => ∃ k : Nat, k ≤ 3 ∧ k ≤ os.length ∧ i = .int .i64 k ∧ Hid (histV xs = true → ordK xs os k = true) ∧ Hid (Below w.heap.size w wr)) (fun i _ => 3 - (intOf i).toNat)
  case atStart => exact ⟨0, by omega, Nat.zero_le _, rfl, fun _ => rfl, Below.refl _ _⟩
  case round =>
    obtain ⟨k, hk3, hk, rfl, hK, hb⟩ := hrel
    have HK := hide hK.out; have HBr := hide hb.out
    clear hK hb
    by_cases h3 : k < 3
    · have hd3 : decide ((k : Int) ≤ 2) = true := decide_eq_true (by omega)
      by_cases hlt : k < os.length
      · obtain ⟨b, off, A2, c2, hBe, hbS, d0, hs1, hs2, hs3⟩ := at_IntS HB.out HBr.out hlt
        subst hBe
        have hol := HSz.out _ (List.getElem_mem hlt)
        have HSu := hide (ordK_succ xs os k)
        have HSt := hide (ordK_stop (h := xs) (os := os) (k := k) (n := 3) h3)
        rw [getD_at hlt] at HSu HSt
        have HIk := hide (fun hv => HIr.out hv (k : Int))
        have hil := HIl.out (k : Int)
        have HI1 := hide (HIn.out wr.drew (k : Int) (by omega) HBr.out.drew)
        generalize os[k] = O at d0 hs1 hs3 hol HSu HSt
        generalize insR xs (k : Int) = I at HIk hil HI1
        have HSa := hide (fun (W : World) (A1 : Option Addr) (c1 : Nat) (hb : Below wr.heap.size wr W) (h2 : Row tInt W (Old W) A1 I) => specSame O I A2 A1 c2 c1 W (by simp only [maxLen]; omega) hil (hs3.old hb) h2)
        clear hs3
        have hbw : b < wr.heap.size := Nat.lt_of_lt_of_le hbS HBr.out.size
        cases hs : sameB O I with
        | false =>
          have HF := hide (show ordB xs os = false by
            cases hv : histV xs with
            | false => exact HFf.out hv
            | true => exact HFk.out (HSt.out (by rw [← HIk.out hv]; exact hs)))
          rw [hs] at HSa
          clear hs HSu HSt HIk
          go_upto_region 4 with (fail)
          go_region_held3 (fun V => V.cell? ⟨b, off + k, none⟩ = some (.slice A2 O.length c2))
            (first
              | ((try dsimp only); exact d0)
              | ((try dsimp only); exact d4)
              | ((try dsimp only); exact d5)
              | go_keep)
            ((first
              | (go_at_call 146; refine HI1.out.mono ?_; rintro e w4 ⟨v4, rfl, hO4, hb4⟩; obtain ⟨A4, c4, rfl, h41, h42, h43⟩ := hO4.sl; have HR4 := hide (h43.mono (S' := Old w4) (fun b h => h.2) (fun _ _ => rfl)); have HX4 := hide ((Below.refl _ wr).drew.trans hb4); have d4 := (hb4.cell (p := ⟨b, off + k, none⟩) hbw).trans d0; clear hb4 hO4 h43)
              | (go_at_call 139; refine (HSa.out _ _ _ HX4.out HR4.out).mono ?_; rintro e w5 ⟨rfl, hb5⟩; have HX5 := hide (HX4.out.trans (hb5.mono HX4.out.size)); have d5 := (hb5.cell (p := ⟨b, off + k, none⟩) (Nat.lt_of_lt_of_le hbw HX4.out.size)).trans d4; clear hb5)))
          go_wp2_with fail
          go_ret
          exact ⟨ret_bool HF.out.symm, HBr.out.trans (HX5.out.mono HBr.out.size)⟩
        | true =>
          have HK2 := hide (show histV xs = true → ordK xs os (k + 1) = true from fun hv => by rw [HSu.out, HK.out hv, ← HIk.out hv, hs]; rfl)
          rw [hs] at HSa
          clear hs HSu HSt HIk
          go_upto_region 4 with (fail)
          go_region_held3 (fun V => V.cell? ⟨b, off + k, none⟩ = some (.slice A2 O.length c2))
            (first
              | ((try dsimp only); exact d0)
              | ((try dsimp only); exact d4)
              | ((try dsimp only); exact d5)
              | go_keep)
            ((first
              | (go_at_call 146; refine HI1.out.mono ?_; rintro e w4 ⟨v4, rfl, hO4, hb4⟩; obtain ⟨A4, c4, rfl, h41, h42, h43⟩ := hO4.sl; have HR4 := hide (h43.mono (S' := Old w4) (fun b h => h.2) (fun _ _ => rfl)); have HX4 := hide ((Below.refl _ wr).drew.trans hb4); have d4 := (hb4.cell (p := ⟨b, off + k, none⟩) hbw).trans d0; clear hb4 hO4 h43)
              | (go_at_call 139; refine (HSa.out _ _ _ HX4.out HR4.out).mono ?_; rintro e w5 ⟨rfl, hb5⟩; have HX5 := hide (HX4.out.trans (hb5.mono HX4.out.size)); have d5 := (hb5.cell (p := ⟨b, off + k, none⟩) (Nat.lt_of_lt_of_le hbw HX4.out.size)).trans d4; clear hb5)))
          go_wp2_with fail
          go_roundw
          case rel => exact ⟨k + 1, by omega, by omega, by go_num, HK2.out, HBr.out.trans (HX5.out.mono HBr.out.size)⟩
          case measure => simp [intOf]; omega
      · have HCk := hide (HCv.out _ HBr.out)
        have hl3 : ((os.length : Int) == 3) = false := by rw [beq_eq_false_iff_ne]; omega
        have HF := hide (HFl.out (by omega))
        have hlk : decide ((k : Int) < (os.length : Int)) = false := decide_eq_false (by omega)
        cases hv : histV xs with
        | false =>
          rw [hv] at HCk
          clear hv
          go_wp2_with (go_at_call 52; refine HCk.out.mono ?_; rintro e w2 ⟨rfl, hb2⟩; have HB2 := hide (HBr.out.trans (hb2.mono HBr.out.size)); clear hb2)
          go_ret
          exact ⟨ret_bool HF.out.symm, HB2.out⟩
        | true =>
          rw [hv] at HCk
          clear hv
          go_wp2_with (go_at_call 52; refine HCk.out.mono ?_; rintro e w2 ⟨rfl, hb2⟩; have HB2 := hide (HBr.out.trans (hb2.mono HBr.out.size)); clear hb2)
          go_ret
          exact ⟨ret_bool HF.out.symm, HB2.out⟩
    · obtain rfl : k = 3 := by omega
      have HCk := hide (HCv.out _ HBr.out)
      cases hv : histV xs with
      | false =>
        have HF := hide (HFf.out hv)
        rw [hv] at HCk
        clear hv
        go_wp2_with (go_at_call 52; refine HCk.out.mono ?_; rintro e w2 ⟨rfl, hb2⟩; have HB2 := hide (HBr.out.trans (hb2.mono HBr.out.size)); clear hb2)
        go_ret
        exact ⟨ret_bool HF.out.symm, HB2.out⟩
      | true =>
        rw [hv] at HCk
        by_cases hl : os.length = 3
        · have hl3 : ((os.length : Int) == 3) = true := by rw [beq_iff_eq]; omega
          have HT := hide (HTt.out hv hl (HK.out hv))
          clear hv hl
          go_wp2_with (go_at_call 52; refine HCk.out.mono ?_; rintro e w2 ⟨rfl, hb2⟩; have HB2 := hide (HBr.out.trans (hb2.mono HBr.out.size)); clear hb2)
          go_ret
          exact ⟨ret_bool HT.out.symm, HB2.out⟩
        · have hl3 : ((os.length : Int) == 3) = false := by rw [beq_eq_false_iff_ne]; omega
          have HF := hide (HFl.out hl)
          clear hv hl
          go_wp2_with (go_at_call 52; refine HCk.out.mono ?_; rintro e w2 ⟨rfl, hb2⟩; have HB2 := hide (HBr.out.trans (hb2.mono HBr.out.size)); clear hb2)
          go_ret
          exact ⟨ret_bool HF.out.symm, HB2.out⟩
end Go.Proofs.YtaaagoppecnmmaaDoor
