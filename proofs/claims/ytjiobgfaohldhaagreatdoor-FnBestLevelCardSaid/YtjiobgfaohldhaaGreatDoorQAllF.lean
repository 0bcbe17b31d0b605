/- The reference's LevelAllows and LevelOf. BestLevel of the program and of the reference. The facts of the drawn region of the reference's AllOrders. The reference's copies of lists of lists: l1OwnRowsInt. -/
import Derived.Test.YtjiobgfaohldhaaGreatDoorQLevS
import Derived.Test.YtjiobgfaohldhaaGreatDoorQEdgA
import Derived.Test.YtjiobgfaohldhaaGreatDoorQAllI
import Derived.Test.YtjiobgfaohldhaaGreatDoorQDelOp
import Derived.Test.YtjiobgfaohldhaaGreatDoorQSearchM
import Derived.Test.YtjiobgfaohldhaaGreatDoorQContC
namespace Go.Proofs.YtjiobgfaohldhaaGreatDoor
open Go.RowKit
set_option linter.unusedVariables false
set_option linter.unusedSimpArgs false

def anyK (h : List Txn) (xs : List Edge) (k : Nat) : Bool := (List.range k).all fun k : Nat => !anoB (h.length : Int) xs ((k : Int) + 1)
theorem allB_nat (h : List Txn) (xs : List Edge) (L : Nat) : allB h xs (L : Int) = (anyK h xs L && (decide ((L : Int) < 2) || readsB h)) := rfl
theorem anyK_succ {h : List Txn} {xs : List Edge} {k : Nat} (hk : anyK h xs k = true) : anyK h xs (k + 1) = !anoB (h.length : Int) xs ((k : Int) + 1) := range_all_succ hk
theorem anyK_stop {h : List Txn} {xs : List Edge} {k n : Nat} (hk : k < n) (ha : anoB (h.length : Int) xs ((k : Int) + 1) = true) : anyK h xs n = false := range_all_stop hk (by rw [ha]; rfl)
theorem lav_no {h : List Txn} {os : List (List Int)} (ho : ordB h os = false) (L : Int) : lavB h os L = false := by unfold lavB; rw [ho]; rfl
theorem lav_ok {h : List Txn} {os : List (List Int)} (ho : ordB h os = true) {L : Nat} (hL : L ≤ 4) : lavB h os (L : Int) = (anyK h (edgR h os) L && (decide ((L : Int) < 2) || readsB h)) := by
  unfold lavB
  rw [ho, inR_iff.2 (show (0 : Int) ≤ (L : Int) ∧ (L : Int) ≤ 4 by omega), allB_nat]; rfl
theorem levO_hit {h : List Txn} {os : List (List Int)} {L : Nat} (hL : L ≤ 4) (hy : lavB h os (L : Int) = true) (hn : ∀ l : Nat, L < l → l ≤ 4 → lavB h os (l : Int) = false) : levO h os = (L : Int) := by
  cases ho : ordB h os with
  | false => rw [lav_no ho] at hy; cases hy
  | true =>
    have e : ∀ l : Nat, l ≤ 4 → lavB h os (l : Int) = allB h (edgR h os) (l : Int) := fun l hl => by
      unfold lavB
      rw [ho, inR_iff.2 (show (0 : Int) ≤ (l : Int) ∧ (l : Int) ≤ 4 by omega)]; rfl
    rw [e L hL] at hy
    have hn' : ∀ l : Nat, L < l → l ≤ 4 → allB h (edgR h os) (l : Int) = false := fun l h1 h2 => by rw [← e l h2]; exact hn l h1 h2
    unfold levO topLv
    rw [ho, if_pos rfl]
    rcases (by omega : L = 0 ∨ L = 1 ∨ L = 2 ∨ L = 3 ∨ L = 4) with rfl | rfl | rfl | rfl | rfl
    · have h1 : allB h (edgR h os) 1 = false := hn' 1 (by omega) (by omega)
      have h2 : allB h (edgR h os) 2 = false := hn' 2 (by omega) (by omega)
      have h3 : allB h (edgR h os) 3 = false := hn' 3 (by omega) (by omega)
      have h4 : allB h (edgR h os) 4 = false := hn' 4 (by omega) (by omega)
      simp [h1, h2, h3, h4]
    · have h2 : allB h (edgR h os) 2 = false := hn' 2 (by omega) (by omega)
      have h3 : allB h (edgR h os) 3 = false := hn' 3 (by omega) (by omega)
      have h4 : allB h (edgR h os) 4 = false := hn' 4 (by omega) (by omega)
      have hy1 : allB h (edgR h os) 1 = true := hy
      simp [hy1, h2, h3, h4]
    · have h3 : allB h (edgR h os) 3 = false := hn' 3 (by omega) (by omega)
      have h4 : allB h (edgR h os) 4 = false := hn' 4 (by omega) (by omega)
      have hy2 : allB h (edgR h os) 2 = true := hy
      simp [hy2, h3, h4]
    · have h4 : allB h (edgR h os) 4 = false := hn' 4 (by omega) (by omega)
      have hy3 : allB h (edgR h os) 3 = true := hy
      simp [hy3, h4]
    · have hy4 : allB h (edgR h os) 4 = true := hy
      simp [hy4]
theorem levO_miss {h : List Txn} {os : List (List Int)} (hn : ∀ l : Nat, l ≤ 4 → lavB h os (l : Int) = false) : levO h os = -1 := by
  cases ho : ordB h os with
  | false => unfold levO; rw [ho]; rfl
  | true =>
    have h0 := hn 0 (by omega)
    rw [lav_ok ho (by omega)] at h0
    simp [anyK] at h0
set_option maxRecDepth 10000 in
set_option maxHeartbeats 4000000 in
theorem specLevelAllows (xs : List Txn) (os : List (List Int)) (L : Nat) (A B : Option Addr) (c d : Nat) (w : World) (hL : L ≤ 4) (hm : xs.length ≤ maxLen) (ht : opsN xs ≤ 1048576) (hmo : os.length ≤ 1048576) (hsz : ∀ o ∈ os, o.length ≤ 1048576) (hA : Row tTxn w (Old w) A xs) (hB : Row (tSlice tInt) w (Old w) B os) :
    Calls Tryz.prog 57 #[.slice A xs.length c, .slice B os.length d, .int .i64 (L : Int)] w fun e w' => e = .returned (.bool (lavB xs os (L : Int))) ∧ Below w.heap.size w w' := by
  have HOv := hide (specOrdersValid xs os A B c d w hm ht hmo hsz hA hB)
  cases ho : ordB xs os with
  | false =>
    rw [ho] at HOv
    have HR := hide (lav_no ho (L : Int))
    clear ho hA hB
    go_enter Tryz.func57, Tryz.ntmps57
    go_wp2_with (first | (go_at_call 89; refine HOv.out.mono ?_; rintro e w1 ⟨rfl, hb1⟩; have HB1 := hide hb1; clear hb1) | (go_at_call 105; refine (l1In _ _ _ _).mono ?_; rintro e w' ⟨rfl, rfl⟩))
    go_ret
    exact ⟨ret_bool HR.out.symm, HB1.out⟩
  | true =>
    rw [ho] at HOv
    obtain ⟨hv, h3, _⟩ := ord_parts ho
    have HEd := hide (fun (W : World) (hb : Below w.heap.size w W) => specEdgesOf xs os A B c d W hm ht hmo hsz (hA.old hb) (hB.old hb))
    have HRr := hide (fun (W : World) (hb : Below w.heap.size w W) => specReadsRight xs A c W hv ht (hA.old hb))
    have HR0 := hide (lav_ok ho hL)
    have hel := edgR_len xs os
    have HSu := hide (fun k hk => anyK_succ (h := xs) (xs := edgR xs os) (k := k) hk)
    have HSt := hide (fun (k : Nat) (hk : k < L) ha => anyK_stop (h := xs) (xs := edgR xs os) hk ha)
    have hr : inR (L : Int) 0 4 = true := inR_iff.2 (by omega)
    have hqx : xs.length ≤ 9223372036854775807 := by simpa [maxLen] using hm
    clear ho hA hB hv h3 hsz hmo
    go_enter Tryz.func57, Tryz.ntmps57
    go_upto_region 5 with (first | (go_at_call 89; refine HOv.out.mono ?_; rintro e w1 ⟨rfl, hb1⟩; have HB1 := hide hb1; clear hb1) | (go_at_call 105; refine (l1In _ _ _ _).mono ?_; rintro e w' ⟨rfl, rfl⟩; rw [hr]) | (go_at_call 42; refine (HEd.out _ HB1.out).mono ?_; rintro e w2 ⟨v2, rfl, hO2, hb2⟩; obtain ⟨A2, c2, rfl, h21, h22, h23⟩ := hO2; have HR2 := hide (h23.mono (w' := w2) (S' := Old w2) (fun b h => h.2) (fun _ _ => rfl)); have HB2 := hide (HB1.out.trans (hb2.mono HB1.out.size)); clear h23 hb2))
    generalize edgR xs os = es at HR0 hel HSu HSt HR2 h21
    go_loopw [8] (fun i wr => ∃ k : Nat, k ≤ L ∧ i = .int .i64 ((k : Int) + 1) ∧ Hid (anyK xs es k = true) ∧ Hid (Below w2.heap.size w2 wr)) (fun i _ => L + 1 - (intOf i).toNat)
    case atStart => exact ⟨0, Nat.zero_le _, rfl, rfl, Below.refl _ _⟩
    case round =>
      obtain ⟨k, hk, rfl, hI, hb⟩ := hrel
      have HI := hide hI.out; have HB3 := hide hb.out
      clear hI hb
      have HB4 := hide (HB2.out.trans (HB3.out.mono HB2.out.size))
      by_cases hlt : k < L
      · have hki : (k : Int) + 1 ≤ (L : Int) := by omega
        have HAn := hide (specHasAnomaly (xs.length : Int) es ((k : Int) + 1) A2 c2 wr (by simp only [maxLen]; omega) (HR2.out.old HB3.out))
        have hw : IntKind.i64.wrap ((k : Int) + 1 + 1) = (k : Int) + 1 + 1 := by rw [IntKind.wrap_i64]; omega
        cases ha : anoB (xs.length : Int) es ((k : Int) + 1) with
        | true =>
          have HR := hide (show lavB xs os (L : Int) = false by rw [HR0.out, HSt.out k hlt ha]; rfl)
          rw [ha] at HAn
          clear ha
          go_wp2_with (go_at_call 107; refine HAn.out.mono ?_; rintro e w5 ⟨rfl, hb5⟩; have HB5 := hide (HB4.out.trans (hb5.mono HB4.out.size)); clear hb5)
          go_ret
          exact ⟨ret_bool HR.out.symm, HB5.out⟩
        | false =>
          have HI2 := hide (show anyK xs es (k + 1) = true by rw [HSu.out k HI.out, ha]; rfl)
          rw [ha] at HAn
          clear ha
          go_wp2_with (go_at_call 107; refine HAn.out.mono ?_; rintro e w5 ⟨rfl, hb5⟩; have HB5 := hide (HB3.out.trans (hb5.mono HB3.out.size)); clear hb5)
          go_roundw
          case rel => exact ⟨k + 1, by omega, by go_num, HI2.out, HB5.out⟩
          case measure => simp [intOf]; omega
      · obtain rfl : k = L := by omega
        have HR := hide (show lavB xs os (k : Int) = (decide ((k : Int) < 2) || readsB xs) by rw [HR0.out, HI.out]; rfl)
        have hkn : ¬ ((k : Int) + 1 ≤ (k : Int)) := by omega
        have HR4 := hide (HRr.out wr HB4.out)
        by_cases h2 : (k : Int) < 2
        · have HRa := hide (show lavB xs os (k : Int) = true by rw [HR.out, decide_eq_true h2]; rfl)
          go_wp2_with fail
          go_ret
          exact ⟨ret_bool HRa.out.symm, HB4.out⟩
        · have HRa := hide (show lavB xs os (k : Int) = readsB xs by rw [HR.out, decide_eq_false h2]; rfl)
          go_wp2_with (go_at_call 40; refine HR4.out.mono ?_; rintro e w5 ⟨rfl, hb5⟩; have HB5 := hide (HB4.out.trans (hb5.mono HB4.out.size)); clear hb5)
          go_ret
          exact ⟨ret_bool HRa.out.symm, HB5.out⟩
set_option maxRecDepth 10000 in
set_option maxHeartbeats 4000000 in
theorem specLevelOf (xs : List Txn) (os : List (List Int)) (A B : Option Addr) (c d : Nat) (w : World) (hm : xs.length ≤ maxLen) (ht : opsN xs ≤ 1048576) (hmo : os.length ≤ 1048576) (hsz : ∀ o ∈ os, o.length ≤ 1048576) (hA : Row tTxn w (Old w) A xs) (hB : Row (tSlice tInt) w (Old w) B os) :
    Calls Tryz.prog 25 #[.slice A xs.length c, .slice B os.length d] w fun e w' => e = .returned (.int .i64 (levO xs os)) ∧ Below w.heap.size w w' := by
  have HLa := hide (fun (L : Nat) (hL : L ≤ 4) (W : World) (hb : Below w.heap.size w W) => specLevelAllows xs os L A B c d W hL hm ht hmo hsz (hA.old hb) (hB.old hb))
  have HHit := hide (fun (L : Nat) hL hy hn => levO_hit (h := xs) (os := os) (L := L) hL hy hn)
  have HMis := hide (fun hn => levO_miss (h := xs) (os := os) hn)
  clear hA hB hm ht hmo hsz
  go_enter Tryz.func25, Tryz.ntmps25
  go_wp2_with fail
  go_loopw [5] (fun i wr => ∃ k : Nat, k ≤ 5 ∧ i = .int .i64 ((k : Int) - 1) ∧ Hid (∀ l : Nat, k ≤ l → l ≤ 4 → lavB xs os (l : Int) = false) ∧ Hid (Below w.heap.size w wr)) (fun i _ => (intOf i + 1).toNat)
  case atStart => exact ⟨5, Nat.le_refl _, rfl, fun l h1 h2 => absurd h1 (by omega), Below.refl _ _⟩
  case round =>
    obtain ⟨k, hk, rfl, hI, hb⟩ := hrel
    have HI := hide hI.out; have HB := hide hb.out
    clear hI hb
    by_cases h0 : k = 0
    · subst h0
      have HR := hide (HMis.out (fun l hl => HI.out l (by omega) hl))
      go_wp2_with fail
      go_ret
      exact ⟨ret_int HR.out.symm, HB.out⟩
    · obtain ⟨L, rfl⟩ : ∃ L, k = L + 1 := ⟨k - 1, by omega⟩
      rw [show ((L + 1 : Nat) : Int) - 1 = (L : Int) by omega]
      have hL0 : (0 : Int) ≤ (L : Int) := by omega
      have HC := hide (HLa.out L (by omega) wr HB.out)
      have hw : IntKind.i64.wrap ((L : Int) - 1) = (L : Int) - 1 := by rw [IntKind.wrap_i64]; omega
      cases hy : lavB xs os (L : Int) with
      | true =>
        have HR := hide (HHit.out L (by omega) hy (fun l h1 h2 => HI.out l (by omega) h2))
        rw [hy] at HC
        clear hy
        go_wp2_with (go_at_call 57; refine HC.out.mono ?_; rintro e w5 ⟨rfl, hb5⟩; have HB5 := hide (HB.out.trans (hb5.mono HB.out.size)); clear hb5)
        go_ret
        exact ⟨ret_int HR.out.symm, HB5.out⟩
      | false =>
        have HI2 := hide (show ∀ l : Nat, L ≤ l → l ≤ 4 → lavB xs os (l : Int) = false from fun l h1 h2 => by
          rcases Nat.lt_or_eq_of_le h1 with h | rfl
          · exact HI.out l (by omega) h2
          · exact hy)
        rw [hy] at HC
        clear hy
        go_wp2_with (go_at_call 57; refine HC.out.mono ?_; rintro e w5 ⟨rfl, hb5⟩; have HB5 := hide (HB.out.trans (hb5.mono HB.out.size)); clear hb5)
        go_roundw
        case rel => exact ⟨L, by omega, by go_num, HI2.out, HB5.out⟩
        case measure => simp [intOf]
end Go.Proofs.YtjiobgfaohldhaaGreatDoor
namespace Go.Proofs.YtjiobgfaohldhaaGreatDoor
open Go.RowKit
set_option linter.unusedVariables false
set_option linter.unusedSimpArgs false

def bestK (h : List Txn) (all : List (List (List Int))) (k : Nat) : Int := (all.take k).foldl (fun b os => max b (levO h os)) (-1)
theorem bestK_succ (h : List Txn) (all : List (List (List Int))) (k : Nat) (hk : k < all.length) : bestK h all (k + 1) = max (bestK h all k) (levO h all[k]) := by
  unfold bestK
  rw [List.take_succ_eq_append_getElem hk, List.foldl_append]; rfl
theorem bestK_bd (h : List Txn) (all : List (List (List Int))) (k : Nat) : -1 ≤ bestK h all k ∧ bestK h all k ≤ 4 := by
  unfold bestK
  obtain ⟨h1, h2, h3⟩ := fold_max (levO h) (all.take k) (-1)
  refine ⟨h1, ?_⟩
  rcases h3 with h3 | ⟨x, _, h3⟩
  · rw [h3]; omega
  · rw [h3]; exact (levO_bd h x).2
theorem allO_bd2 (h : List Txn) : ∀ x ∈ allO h, x.length ≤ 3 ∧ ∀ o ∈ x, o.length ≤ 6 := by
  intro x hx
  have hne : allO h ≠ [] := fun e => by rw [e] at hx; cases hx
  have hv := (allO_ok.1 hne).1
  rw [allO_eq hne] at hx
  exact ⟨Nat.le_of_eq (partO_mlen h 3 x hx), partO_ilen hv 3 x hx⟩
set_option maxRecDepth 10000 in
set_option maxHeartbeats 4000000 in
theorem implBestLevel (xs : List Txn) (A : Option Addr) (c : Nat) (w : World) (hm : xs.length ≤ maxLen) (hA : Row tTxn w (Old w) A xs) :
    Calls Tryz.prog 7 #[.slice A xs.length c] w fun e w' => e = .returned (.int .i64 (bestO xs)) ∧ Below w.heap.size w w' := by
  have HAo := hide (implAllOrders xs A c w hm hA)
  have HLv := hide (fun (os : List (List Int)) (B : Option Addr) (d : Nat) (W : World) (h1 : os.length ≤ 1048576) (h2 : ∀ o ∈ os, o.length ≤ 1048576) (hb : Below w.heap.size w W) (hB : Row (tSlice tInt) W (Old W) B os) => implLevelOf xs os A B c d W hm h1 h2 (hA.old hb) hB)
  have HBd := hide (allO_bd2 xs)
  have hl2 := allO_len xs
  have HBe := hide (show (allO xs).foldl (fun b os => max b (levO xs os)) (-1) = bestO xs from rfl)
  clear hA
  go_enter Tryz.func7, Tryz.ntmps7
  go_upto_region 3 with (go_at_call 23; refine HAo.out.mono ?_; rintro e w1 ⟨v1, rfl, hS1, hb1⟩; obtain ⟨A1, c1, rfl, h11, h12, h13⟩ := hS1; have HR1 := hide (h13.mono (w' := w1) (S' := Old w1) (fun b h => h.2) (fun _ _ => rfl)); have HB1 := hide hb1; clear hb1 h13)
  generalize allO xs = all at HBd hl2 HBe HR1 h11
  have hqa : all.length ≤ 9223372036854775807 := by omega
  go_loopw [3, 5, 9] (fun m _ i wr => ∃ k : Nat, k ≤ all.length ∧ i = .int .i64 k ∧ m = .int .i64 (bestK xs all k) ∧ Hid (Below w1.heap.size w1 wr)) (fun m _ i _ => all.length - (intOf i).toNat)
  case atStart => exact ⟨0, Nat.zero_le _, rfl, rfl, Below.refl _ _⟩
  case round =>
    obtain ⟨k, hk, rfl, rfl, hb⟩ := hrel
    have HB := hide hb.out
    clear hb
    have HB2 := hide (HB1.out.trans (HB.out.mono HB1.out.size))
    by_cases hlt : k < all.length
    · have hki : (k : Int) < (all.length : Int) := by omega
      obtain ⟨b7, off7, A7, c7, rfl, hb7, g0, g1, g2, hR7⟩ := at_SliceG HR1.out hlt
      replace g0 := (HB.out.cell (p := ⟨b7, off7 + k, none⟩) hb7).trans g0
      have hbd := HBd.out all[k] (List.getElem_mem hlt)
      have HL1 := hide (HLv.out all[k] A7 c7 wr (by omega) (fun o ho => by have := hbd.2 o ho; omega) HB2.out (hR7.old HB.out))
      have HSu := hide (bestK_succ xs all k hlt)
      have hbb := bestK_bd xs all k
      have hlb := levO_bd xs all[k]
      clear hR7 hbd
      generalize levO xs all[k] = lv at HL1 HSu hlb
      generalize all[k] = os at g0 g1 g2 HL1
      generalize bestK xs all k = bk at HSu hbb
      have hmx : (if bk < lv then lv else bk) = max bk lv := by rw [Int.max_def]; split <;> split <;> omega
      go_wp2_with (go_at_call 11; refine HL1.out.mono ?_; rintro e w5 ⟨rfl, hb5⟩; have HB5 := hide (HB.out.trans (hb5.mono HB.out.size)); clear hb5)
      go_roundw
      case rel => exact ⟨k + 1, by omega, by go_num, by rw [HSu.out], HB5.out⟩
      case measure => simp [intOf]; omega
    · obtain rfl : k = all.length := by omega
      have HR := hide (show bestK xs all all.length = bestO xs by rw [← HBe.out]; unfold bestK; rw [List.take_length])
      generalize bestK xs all all.length = bk at HR ⊢
      go_wp2_with fail
      go_ret
      exact ⟨ret_int HR.out, HB2.out⟩
set_option maxRecDepth 10000 in
set_option maxHeartbeats 4000000 in
theorem specBestLevel (xs : List Txn) (A : Option Addr) (c : Nat) (w : World) (hm : xs.length ≤ maxLen) (ht : opsN xs ≤ 1048576) (hAo : ∀ (A : Option Addr) (c : Nat) (w : World), Row tTxn w (Old w) A xs → Calls Tryz.prog 24 #[.slice A xs.length c] w fun e w' => ∃ v, e = .returned v ∧ Sl (tSlice (tSlice tInt)) w' (New w w') (allO xs) v ∧ Below w.heap.size w w') (hA : Row tTxn w (Old w) A xs) :
    Calls Tryz.prog 8 #[.slice A xs.length c] w fun e w' => e = .returned (.int .i64 (bestO xs)) ∧ Below w.heap.size w w' := by
  have HAo := hide (hAo A c w hA)
  have HLv := hide (fun (os : List (List Int)) (B : Option Addr) (d : Nat) (W : World) (h1 : os.length ≤ 1048576) (h2 : ∀ o ∈ os, o.length ≤ 1048576) (hb : Below w.heap.size w W) (hB : Row (tSlice tInt) W (Old W) B os) => specLevelOf xs os A B c d W hm ht h1 h2 (hA.old hb) hB)
  have HBd := hide (allO_bd2 xs)
  have hl2 := allO_len xs
  have HBe := hide (show (allO xs).foldl (fun b os => max b (levO xs os)) (-1) = bestO xs from rfl)
  clear hA
  go_enter Tryz.func8, Tryz.ntmps8
  go_upto_region 4 with (go_at_call 24; refine HAo.out.mono ?_; rintro e w1 ⟨v1, rfl, hS1, hb1⟩; obtain ⟨A1, c1, rfl, h11, h12, h13⟩ := hS1; have HR1 := hide (h13.mono (w' := w1) (S' := Old w1) (fun b h => h.2) (fun _ _ => rfl)); have HB1 := hide hb1; clear hb1 h13)
  generalize allO xs = all at HBd hl2 HBe HR1 h11
  have hqa : all.length ≤ 9223372036854775807 := by omega
  go_loopw [3, 5] (fun m i wr => ∃ k : Nat, k ≤ all.length ∧ i = .int .i64 k ∧ m = .int .i64 (bestK xs all k) ∧ Hid (Below w1.heap.size w1 wr)) (fun m i _ => all.length - (intOf i).toNat)
  case atStart => exact ⟨0, Nat.zero_le _, rfl, rfl, Below.refl _ _⟩
  case round =>
    obtain ⟨k, hk, rfl, rfl, hb⟩ := hrel
    have HB := hide hb.out
    clear hb
    have HB2 := hide (HB1.out.trans (HB.out.mono HB1.out.size))
    by_cases hlt : k < all.length
    · have hki : (k : Int) < (all.length : Int) := by omega
      obtain ⟨b7, off7, A7, c7, rfl, hb7, g0, g1, g2, hR7⟩ := at_SliceG HR1.out hlt
      replace g0 := (HB.out.cell (p := ⟨b7, off7 + k, none⟩) hb7).trans g0
      have hbd := HBd.out all[k] (List.getElem_mem hlt)
      have HL1 := hide (HLv.out all[k] A7 c7 wr (by omega) (fun o ho => by have := hbd.2 o ho; omega) HB2.out (hR7.old HB.out))
      have HSu := hide (bestK_succ xs all k hlt)
      have hbb := bestK_bd xs all k
      have hlb := levO_bd xs all[k]
      clear hR7 hbd
      generalize levO xs all[k] = lv at HL1 HSu hlb
      generalize all[k] = os at g0 g1 g2 HL1
      generalize bestK xs all k = bk at HSu hbb
      have hmx : (if bk < lv then lv else bk) = max bk lv := by rw [Int.max_def]; split <;> split <;> omega
      go_wp2_with (go_at_call 25; refine HL1.out.mono ?_; rintro e w5 ⟨rfl, hb5⟩; have HB5 := hide (HB.out.trans (hb5.mono HB.out.size)); clear hb5)
      go_roundw
      case rel => exact ⟨k + 1, by omega, by go_num, by rw [HSu.out], HB5.out⟩
      case measure => simp [intOf]; omega
    · obtain rfl : k = all.length := by omega
      have HR := hide (show bestK xs all all.length = bestO xs by rw [← HBe.out]; unfold bestK; rw [List.take_length])
      generalize bestK xs all all.length = bk at HR ⊢
      go_wp2_with fail
      go_ret
      exact ⟨ret_int HR.out, HB2.out⟩
end Go.Proofs.YtjiobgfaohldhaaGreatDoor
namespace Go.Proofs.YtjiobgfaohldhaaGreatDoor
open Go.RowKit
set_option linter.unusedVariables false
set_option linter.unusedSimpArgs false

set_option maxRecDepth 10000 in
set_option maxHeartbeats 1000000 in
theorem ownRowsIntA (xs : List (List Int)) (A : Option Addr) (c : Nat) (w : World) (hm : xs.length ≤ 1048576) (hn : ∀ x ∈ xs, x.length ≤ 1048576) (hA : Row (tSlice tInt) w (Old w) A xs) :
    Calls Tryz.prog 56 #[.slice A xs.length c] w fun e w' => ∃ v, e = .returned v ∧ Own (tIntSO 3) 27 w' (New w w') xs v ∧ Below w.heap.size w w' := by
  obtain ⟨i0, hi, hz0, hz1, hz2⟩ := info_parts infoInt_
  obtain ⟨i1, hi1, hz01, hz11, hz21⟩ := info_parts infoIntS_
  have HA := hide hA
  have HN := hide hn
  clear hA hn
  go_enter Tryz.func56, Tryz.ntmps56
  go_wp2
  go_loopw [3, 4] (fun v i wr => ∃ k : Nat, k ≤ xs.length ∧ i = .int .i64 k ∧ Hid (Own (tIntSO 3) 27 wr (fun b => w.heap.size ≤ b ∧ Old wr b) (xs.take k) v) ∧ Below w.heap.size w wr) (fun _ i _ => xs.length - (intOf i).toNat)
  case atStart => exact ⟨0, Nat.zero_le _, rfl, Own.empty w (fun b => w.heap.size ≤ b) (Nat.le_refl _), (Below.refl _ _).alloc (Nat.le_refl _) _⟩
  case round =>
    obtain ⟨k, hk, rfl, hO, hb⟩ := hrel
    by_cases hlt : k < xs.length
    · obtain ⟨b, off, A2, c2, rfl, hbS, c0, hi1', hi2, hi3⟩ := at_IntS HA.out hb hlt
      have HS := hide (take_snoc' xs k hlt)
      have HB := hide hb
      have HL := hide (own_lt (B := wr.heap.size) hO.out (fun b h => h.2))
      have hnl := HN.out _ (List.getElem_mem hlt)
      have HO := hide hO.out
      have HOe := hide (Own.empty (T := tInt) (e := 3) wr (fun b => wr.heap.size ≤ b) (Nat.le_refl _))
      have HRy := hide ((hi3.old ((Below.refl _ wr).alloc (Nat.le_refl _) (.cells #[] 3))).anyInt)
      have c00 := (Below.cell (p := ⟨b, off + k, none⟩) ((Below.refl _ wr).alloc (Nat.le_refl _) (.cells #[] 3)) (Nat.lt_of_lt_of_le hbS hb.size)).trans c0
      have hbz : b < wr.heap.size := Nat.lt_of_lt_of_le hbS hb.size
      generalize xs[k] = x at c0 c00 hnl HS HRy
      clear hi1' hi2 hi3 hO hb
      have hlk : (xs.take k).length ≤ 1048576 := by rw [List.length_take]; omega
      generalize xs.take k = pre at HO HS hlk HL
      go_wp2_with (first
        | (at_builtin; refine wpList_cat tInt rfl (.tmp 13) (.tmp 17) 27 rfl 3 i0 _ 8 Tryz.underlying27 hi hz0 hz1 hz2 rfl (by decide) (fun b => wr.heap.size ≤ b) (fun _ => False) [] x _ rfl HOe.out _ _ _ rfl rfl HRy.out (fun _ h => h.elim) (fun b hb => Nat.le_trans (by simp) hb) (by skip; simp only [maxLen, List.length_nil]; omega) (by skip; simp only [List.length_nil]; omega) ?_; intro v3 w4 hO_ hK_; obtain ⟨A8, c8, rfl, _, _, _⟩ := hO_.sl; have HO4 := hide hO_; have HB4 := hide (show Below wr.heap.size wr w4 from ((Only.of_alloc (K := fun b => wr.heap.size ≤ b) wr (.cells #[] 3)).trans hK_).below); have HO5 := hide (HO.out.onlyBelow HB4.out); clear hO_ hK_)
        | (at_builtin; refine wpList_put (tIntSO 3) rfl (.tmp 12) (.tmp 19) 31 rfl 27 i1 _ 24 Tryz.underlying31 hi1 hz01 hz11 hz21 rfl (by decide) (fun b => w.heap.size ≤ b) (fun b => wr.heap.size ≤ b ∧ Old w4 b) pre x [.slice A8 x.length c8] _ rfl HO5.out 1 rfl ⟨_, rfl, HO4.out⟩ (fun b h => ⟨Nat.le_trans HB.out.size h.1, h.2, fun e => by have := HL.out b e; have := h.1; omega⟩) (fun b hb => Nat.le_trans (Nat.le_trans HB.out.size HB4.out.size) hb) (by simp only [maxLen]; omega) (by omega) ?_; intro v7 w7 hO_ hK_; have HO7 := hide hO_; have HK7 := hide hK_; clear hO_ hK_))
      go_roundw
      case rel => exact ⟨k + 1, by omega, by go_num, by rw [HS.out]; exact HO7.out, below_only (HB.out.trans (HB4.out.mono HB.out.size)) HK7.out (Nat.le_trans HB.out.size HB4.out.size) (fun _ h => h)⟩
      case measure => simp [intOf]; omega
    · obtain rfl : k = xs.length := by omega
      have HS := hide (show xs.take xs.length = xs from List.take_length)
      go_wp2
      go_ret
      exact ⟨_, rfl, by have := hO.out; rw [HS.out] at this; exact this, hb⟩
theorem RowAny.stay {α : Type} {T : Ty α} {w w' : World} {S S' : Nat → Prop} {p : Nat} {xs : List α} (h : RowAny T w S (some ⟨p, 0, none⟩) xs) (h1 : ∀ b, S b → S' b) (h2 : ∀ b, S b → w'.heap[b]? = w.heap[b]?) (hp : w'.heap[p]? = w.heap[p]?) : RowAny T w' S' (some ⟨p, 0, none⟩) xs := fun hx => by
  obtain ⟨b, off, he, hr⟩ := h hx
  have hbo : p = b ∧ 0 = off := by simpa using he
  obtain ⟨rfl, rfl⟩ := hbo
  exact ⟨p, 0, rfl, hr.mono h1 h2 hp⟩
section
variable {P : Program}
/-- append onto an empty slice without room: only new memory. -/
theorem wp_app0 {α : Type} (T : Ty α) {w : World} {o : Oper} {a : Act} {K : Act → World → Prop} {Q : Exit → Act → World → Prop} (s x : Operand) (t : TypeId)
    (ho : o.op = .call { callee := .builtin .append, args := #[s, x], argTypes := #[t, t] })
    (e : TypeId) (i : TypeInfo) (z : Value) (bytes : Nat) (ht : P.underlying t = some (.slice e)) (hi : P.info? e = some i) (hz : i.zero = some z)
    (hsize : i.size = T.size) (hby : i.bytes = bytes) (hzs : z.cells.size = T.size) (hsz : 0 < T.size)
    (S Sy S2 : Nat → Prop) (ys : List α) (p : Nat) (hs : a.eval s = .slice (some ⟨p, 0, none⟩) 0 0) (hO : Own T e w S [] (.slice (some ⟨p, 0, none⟩) 0 0)) (A : Option Addr) (m c : Nat) (hx : a.eval x = .slice A m c) (hm : m = ys.length) (hy : RowAny T w Sy A ys)
    (h63 : ys.length ≤ maxLen) (hbytes : ys.length * bytes ≤ 140737488355328)
    (hSo : ∀ b, S b → Old w b) (hSy : ∀ b, Sy b → Old w b ∧ p ≠ b) (h1 : ∀ b, S b → S2 b) (h2 : ∀ b, Sy b → S2 b) (h3 : S2 w.heap.size)
    (h : ∀ v' w', Own T e w' (fun b => S2 b ∧ Old w' b) ys v' → Below w.heap.size w w' → K (a.put o.dst v') w') : o.wp P a w K Q := by
  subst hm
  obtain ⟨v', w', hrun, h4, h5⟩ := run_app (P := P) T w t o.type e i z bytes ht hi hz hsize hby hzs hsz S Sy S2 [] ys _ hO A c hy (by simpa using h63) (by simpa using hbytes) hSo (fun b hb => ⟨(hSy b hb).1, fun e => (hSy b hb).2 (by simpa [Value.ownBlock] using e)⟩) h1 h2 h3
  have hB : Below w.heap.size w w' := by
    by_cases hp : 0 < ys.length
    · obtain ⟨b, off, rfl, hrow⟩ := hy hp
      obtain ⟨news, hnl, hnc, hn1, hnrel⟩ := cells_of_row hrow
      obtain ⟨v2, w2, hr2, _, hg⟩ := run_append_arg_grows (P := P) (w := w) t o.type e i z T.size bytes ht hi hz hsize hby hzs hsz ⟨p, 0, none⟩ 0 0 [] (by simp) (fun j u hu => by simp at hu) ⟨b, off, none⟩ ys.length c news hnl (fun j u hu => by rw [Go.WideShapes.add_plain]; exact hnc j u hu) (by omega) (by simpa using h63) (by simpa using hbytes)
      have hr3 := hrun.symm.trans hr2
      injection hr3 with e1 e2
      subst e2
      exact (Below.refl _ _).grown hg (Nat.le_refl _) (fun k hk => by cases hk)
    · have hnil : ys = [] := List.eq_nil_of_length_eq_zero (by omega)
      subst hnil
      have hr2 : (Builtin.append_ #[t, t] o.type #[.slice (some ⟨p, 0, none⟩) 0 0, .slice A 0 c]).run P w = .ok (.slice (some ⟨p, 0, none⟩) 0 0) w := by
        cases A <;> simp [Builtin.append_, run_underlying ht, sizeOf, typeInfo, hi, Builtin.lenOf, Builtin.firstCells, storeCells, loadCells, loadCellsFrom]
      have hr3 := hrun.symm.trans hr2
      injection hr3 with e1 e2
      subst e2
      exact Below.refl _ _
  unfold Oper.wp execOp
  simp only [ho, resolve, invoke, builtin, Sem.run_bind, Sem.run_pure, Result.andThen_ok, List.map_toArray, List.map_cons, List.map_nil, hs, hx, hrun]
  exact h v' w' (by simpa using h4) hB
end
/-- The facts: number 5 is the copy, 6 the empty list, 11 the list that was appended to it, 12 the block with it, 13 the copy with it at its end, 14 the block with that. -/
def FAll (lo : Nat) (bg : List (List Int)) (m9 : List Int) (V : Nat → Value) (L : Nat → Bool) (i : Nat) (v : Value) (W : World) : Prop :=
  if i = 5 then L 13 = false → Own (tSlice tInt) 27 W (fun b => lo ≤ b ∧ Old W b) bg v
  else if i = 6 then L 11 = false → ∃ p, v = .slice (some ⟨p, 0, none⟩) 0 0 ∧ Own tInt 3 W (fun b => lo ≤ b ∧ Old W b) [] v
  else if i = 11 then L 12 = false → Own tInt 3 W (fun b => lo ≤ b ∧ Old W b) m9 v
  else if i = 12 then L 13 = false → ∃ p Sy, v = .slice (some ⟨p, 0, none⟩) 1 1 ∧ RowAny (tSlice tInt) W Sy (some ⟨p, 0, none⟩) [m9] ∧ Old W p ∧ ∀ b, Sy b → lo ≤ b ∧ ∃ cur, Blk W b 3 cur
  else if i = 13 then Own (tSlice tInt) 27 W (fun b => lo ≤ b ∧ Old W b) (bg ++ [m9]) v
  else if i = 14 then ∃ p, v = .slice (some ⟨p, 0, none⟩) 1 1 ∧ RowAny (tSlice (tSlice tInt)) W (fun b => lo ≤ b ∧ Old W b) (some ⟨p, 0, none⟩) [bg ++ [m9]] ∧ Old W p
  else v = V i
section
variable {lo : Nat} {bg : List (List Int)} {m9 : List Int} {V : Nat → Value} {L : Nat → Bool} {v : Value} {W : World}
theorem FAll.get {i : Nat} (h : FAll lo bg m9 V L i v W) (hi : i ≠ 5 ∧ i ≠ 6 ∧ i ≠ 11 ∧ i ≠ 12 ∧ i ≠ 13 ∧ i ≠ 14) : v = V i := by
  obtain ⟨h1, h2, h3, h4, h5, h6⟩ := hi
  unfold FAll at h
  rwa [if_neg h1, if_neg h2, if_neg h3, if_neg h4, if_neg h5, if_neg h6] at h
theorem FAll.val {i : Nat} (hi : i ≠ 5 ∧ i ≠ 6 ∧ i ≠ 11 ∧ i ≠ 12 ∧ i ≠ 13 ∧ i ≠ 14) (h : v = V i) : FAll lo bg m9 V L i v W := by
  obtain ⟨h1, h2, h3, h4, h5, h6⟩ := hi
  unfold FAll
  rwa [if_neg h1, if_neg h2, if_neg h3, if_neg h4, if_neg h5, if_neg h6]
theorem FAll.iff5 : FAll lo bg m9 V L 5 v W ↔ (L 13 = false → Own (tSlice tInt) 27 W (fun b => lo ≤ b ∧ Old W b) bg v) := by unfold FAll; simp
theorem FAll.iff6 : FAll lo bg m9 V L 6 v W ↔ (L 11 = false → ∃ p, v = .slice (some ⟨p, 0, none⟩) 0 0 ∧ Own tInt 3 W (fun b => lo ≤ b ∧ Old W b) [] v) := by unfold FAll; simp
theorem FAll.iff11 : FAll lo bg m9 V L 11 v W ↔ (L 12 = false → Own tInt 3 W (fun b => lo ≤ b ∧ Old W b) m9 v) := by unfold FAll; simp
theorem FAll.iff12 : FAll lo bg m9 V L 12 v W ↔ (L 13 = false → ∃ p Sy, v = .slice (some ⟨p, 0, none⟩) 1 1 ∧ RowAny (tSlice tInt) W Sy (some ⟨p, 0, none⟩) [m9] ∧ Old W p ∧ ∀ b, Sy b → lo ≤ b ∧ ∃ cur, Blk W b 3 cur) := by unfold FAll; simp
theorem FAll.iff13 : FAll lo bg m9 V L 13 v W ↔ Own (tSlice tInt) 27 W (fun b => lo ≤ b ∧ Old W b) (bg ++ [m9]) v := by unfold FAll; simp
theorem FAll.iff14 : FAll lo bg m9 V L 14 v W ↔ ∃ p, v = .slice (some ⟨p, 0, none⟩) 1 1 ∧ RowAny (tSlice (tSlice tInt)) W (fun b => lo ≤ b ∧ Old W b) (some ⟨p, 0, none⟩) [bg ++ [m9]] ∧ Old W p := by unfold FAll; simp
theorem own_stay {α : Type} {T : Ty α} {e : TypeId} {wa wb : World} {xs : List α} {u : Value} (h : Own T e wa (fun b => lo ≤ b ∧ Old wa b) xs u) (hb : Below wa.heap.size wa wb) : Own T e wb (fun b => lo ≤ b ∧ Old wb b) xs u :=
  h.mono (fun b h => ⟨h.1, Nat.lt_of_lt_of_le h.2 hb.size⟩) fun b h => hb.block b h.2
theorem own_int_blk {w : World} {xs : List Int} {A : Option Addr} {n c : Nat} (h : Own tInt 3 w (fun b => lo ≤ b ∧ Old w b) xs (.slice A n c)) : ∃ Sy : Nat → Prop, Sl tInt w Sy xs (.slice A n c) ∧ ∀ b, Sy b → lo ≤ b ∧ ∃ cur, Blk w b 3 cur := by
  rcases h with ⟨h1, rfl⟩ | ⟨g, cap, cur, S', hv, hg, hB, h1, h2, h3, h4, h5⟩
  · injection h1 with e1 e2 e3
    subst e1 e2 e3
    exact ⟨fun _ => False, ⟨none, 0, rfl, Nat.le_refl _, by simp [maxLen], Row.nil⟩, fun _ h => h.elim⟩
  · refine ⟨fun b => b = g, ⟨some ⟨g, 0, none⟩, cap, hv, h1, h2, fun _ => ⟨g, 0, rfl, rfl, fun k hk => ?_⟩⟩, fun b e => ?_⟩
    · obtain ⟨cs, hr, hc⟩ := h5 k hk
      exact ⟨cs, hr, hc⟩
    · subst e; exact ⟨hg.1, cur, hB⟩
theorem own_intS_blk {α : Type} {T : Ty α} {e : TypeId} {w : World} {S : Nat → Prop} {xs : List α} {v : Value} (h : Own T e w S xs v) : ∀ b, v.ownBlock = some b → ∃ cur, Blk w b e cur := fun b hb => by
  rcases h with ⟨rfl, rfl⟩ | ⟨g, cap, cur, S', rfl, hg, hB, h1, h2, h3, h4, h5⟩
  · cases hb
  · have : g = b := by simpa [Value.ownBlock] using hb
    subst this; exact ⟨cur, hB⟩
theorem FAll.ev {i k : Nat} {wa wb : World} (hi : i < 15) (h : FAll lo bg m9 V L i v wa) (hk : L k = false) (h13 : k = 13 → L 11 = true ∧ L 12 = true) (hik : i = 13 ∨ i = 14 → k ≠ 13) (hb : k ≠ 13 → Below wa.heap.size wa wb) : FAll lo bg m9 V (fun j => if j = k then true else L j) i v wb := by
  by_cases e5 : i = 5
  · subst e5
    rw [FAll.iff5] at h ⊢
    intro hl
    have hk13 : k ≠ 13 := fun e => by subst e; simp at hl
    rw [if_neg (Ne.symm hk13)] at hl
    exact own_stay (h hl) (hb hk13)
  by_cases e6 : i = 6
  · subst e6
    rw [FAll.iff6] at h ⊢
    intro hl
    have hk11 : k ≠ 11 := fun e => by subst e; simp at hl
    rw [if_neg (Ne.symm hk11)] at hl
    obtain ⟨p, h1, h2⟩ := h hl
    exact ⟨p, h1, own_stay h2 (hb fun e => by rw [(h13 e).1] at hl; cases hl)⟩
  by_cases e11 : i = 11
  · subst e11
    rw [FAll.iff11] at h ⊢
    intro hl
    have hk12 : k ≠ 12 := fun e => by subst e; simp at hl
    rw [if_neg (Ne.symm hk12)] at hl
    exact own_stay (h hl) (hb fun e => by rw [(h13 e).2] at hl; cases hl)
  by_cases e12 : i = 12
  · subst e12
    rw [FAll.iff12] at h ⊢
    intro hl
    have hk13 : k ≠ 13 := fun e => by subst e; simp at hl
    rw [if_neg (Ne.symm hk13)] at hl
    obtain ⟨p, Sy, h1, h2, h3, h4⟩ := h hl
    have hB := hb hk13
    refine ⟨p, Sy, h1, h2.stay (fun _ h => h) (fun b hS => ?_) (hB.block p h3), Nat.lt_of_lt_of_le h3 hB.size, fun b hS => ?_⟩
    · obtain ⟨_, cur, hc⟩ := h4 b hS
      exact hB.block b hc.lt
    · obtain ⟨h5, cur, hc⟩ := h4 b hS
      exact ⟨h5, cur, hc.below hB hc.lt⟩
  by_cases e13 : i = 13
  · subst e13
    rw [FAll.iff13] at h ⊢
    exact own_stay h (hb (hik (.inl rfl)))
  by_cases e14 : i = 14
  · subst e14
    rw [FAll.iff14] at h ⊢
    obtain ⟨p, h1, h2, h3⟩ := h
    have hB := hb (hik (.inr rfl))
    exact ⟨p, h1, h2.stay (fun b hS => ⟨hS.1, Nat.lt_of_lt_of_le hS.2 hB.size⟩) (fun b hS => hB.block b hS.2) (hB.block p h3), Nat.lt_of_lt_of_le h3 hB.size⟩
  exact FAll.val ⟨e5, e6, e11, e12, e13, e14⟩ (h.get ⟨e5, e6, e11, e12, e13, e14⟩)
end
end Go.Proofs.YtjiobgfaohldhaaGreatDoor
