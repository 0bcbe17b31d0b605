/- The place of a value in an order: the program's version, the reference's l14Version. The reference's l14Version; the two VersionOf. The two VersionOf. -/
import Derived.Test.YtaaagoppecnmmaaDoorOrdS
import Derived.Test.YtaaagoppecnmmaaDoorIdx
namespace Go.Proofs.YtaaagoppecnmmaaDoor
open Go.RowKit
set_option linter.unusedVariables false
set_option linter.unusedSimpArgs false

def verN7 (o : List Int) (v : Int) : Int := if v = 0 then 0 else if 0 ≤ idx (fun y => v == y) o then idx (fun y => v == y) o + 1 else -1
theorem idx_lt7 {α : Type} (p : α → Bool) : ∀ (xs : List α), idx p xs = -1 ∨ ∃ i : Nat, i < xs.length ∧ idx p xs = (i : Int)
  | [] => .inl rfl
  | x :: xs => by
    cases hx : p x with
    | true => exact .inr ⟨0, by simp, by simp [idx, hx]⟩
    | false =>
      rcases idx_lt7 p xs with h1 | ⟨i, hi, h1⟩
      · left; simp only [idx, hx, h1]; rfl
      · right; exact ⟨i + 1, by simpa using hi, by simp only [idx, hx, h1]; rfl⟩
set_option maxRecDepth 10000 in
set_option maxHeartbeats 1000000 in
theorem implVersion (o : List Int) (v : Int) (A : Option Addr) (c : Nat) (w : World) (hl : o.length ≤ 1048576) (hA : Row tInt w (Old w) A o) :
    Calls Tryd.prog 96 #[.slice A o.length c, .int .i64 v] w fun e w' => e = .returned (.int .i64 (verN7 o v)) ∧ w = w' := by
  have HI := hide (index_Int o v A c w (by simp only [maxLen]; omega) hA)
  have hlt : idx (fun y => v == y) o < 1048577 ∧ -1 ≤ idx (fun y => v == y) o := by
    rcases idx_lt7 (fun y => v == y) o with h | ⟨i, hi, h⟩
    · rw [h]; omega
    · rw [h]; omega
  have HV := hide (show verN7 o v = if v = 0 then 0 else if 0 ≤ idx (fun y => v == y) o then idx (fun y => v == y) o + 1 else -1 from rfl)
  generalize idx (fun y => v == y) o = q at HI hlt HV
  clear hA
  go_enter Tryd.func96, Tryd.ntmps96
  by_cases h0 : v = 0
  · have HV2 := hide (HV.out.trans (if_pos h0))
    subst h0
    clear HV
    go_wp2_with fail
    go_ret
    exact ⟨ret_int HV2.out.symm, rfl⟩
  · have HV2 := hide (HV.out.trans (if_neg h0))
    have h0b : (v == 0) = false := by simpa using h0
    clear HV h0
    by_cases hq : 0 ≤ q
    · have HV3 := hide (HV2.out.trans (if_pos hq))
      have hqd : decide (q ≥ 0) = true := decide_eq_true hq
      have hsum : IntKind.i64.wrap (q + 1) = q + 1 := by rw [IntKind.wrap_i64]; omega
      go_wp2_with (go_at_call 145; refine HI.out.mono ?_; rintro e w' ⟨rfl, rfl⟩)
      go_ret
      exact ⟨ret_int HV3.out.symm, rfl⟩
    · have HV3 := hide (HV2.out.trans (if_neg hq))
      have hqd : decide (q ≥ 0) = false := decide_eq_false hq
      go_wp2_with (go_at_call 145; refine HI.out.mono ?_; rintro e w' ⟨rfl, rfl⟩)
      go_ret
      exact ⟨ret_int HV3.out.symm, rfl⟩
set_option maxRecDepth 10000 in
set_option maxHeartbeats 1000000 in
theorem specVersion (o : List Int) (v : Int) (A : Option Addr) (c : Nat) (w : World) (hl : o.length ≤ 1048576) (hA : Row tInt w (Old w) A o) :
    Calls Tryd.prog 98 #[.slice A o.length c, .int .i64 v] w fun e w' => e = .returned (.int .i64 (verN7 o v)) ∧ w = w' := by
  have HA := hide hA
  have HV := hide (show verN7 o v = if v = 0 then 0 else if 0 ≤ idx (fun y => v == y) o then idx (fun y => v == y) o + 1 else -1 from rfl)
  have hq : o.length ≤ 9223372036854775807 := by omega
  clear hA
  go_enter Tryd.func98, Tryd.ntmps98
  by_cases h0 : v = 0
  · have HV2 := hide (HV.out.trans (if_pos h0))
    subst h0
    clear HV
    go_wp2_with fail
    go_ret
    exact ⟨ret_int HV2.out.symm, rfl⟩
  · have HV2 := hide (HV.out.trans (if_neg h0))
    have h0b : (v == 0) = false := by simpa using h0
    clear HV h0
    go_wp2_with fail
    go_loop [5] (fun i => ∃ k : Nat, k ≤ o.length ∧ i = .int .i64 k ∧ Hid (∀ j (hj : j < o.length), j < k → (v == o[j]) = false)) (fun i => o.length - (intOf i).toNat)
    case atStart => exact ⟨0, Nat.zero_le _, rfl, (fun j hj h => absurd h (by omega))⟩
    case round =>
      obtain ⟨k, hk, rfl, hI⟩ := hrel
      have HI := hide hI.out
      clear hI
      by_cases hlt : k < o.length
      · obtain ⟨b, off, rfl, hbS, c0⟩ := at_Int HA.out (Below.refl _ _) hlt
        have HHit := hide (fun (h : (v == o[k]) = true) => idx_hit (fun y => v == y) o k hlt h HI.out)
        have HMs := hide (fun (h : (v == o[k]) = false) => (show ∀ j (hj : j < o.length), j < k + 1 → (v == o[j]) = false from fun j hj h1 => by
          by_cases hjk : j < k
          · exact HI.out j hj hjk
          · obtain rfl : j = k := by omega
            exact h))
        generalize o[k] = x at c0 HHit HMs
        cases hx : (v == x) with
        | true =>
          have hx2 : (x == v) = true := by rw [beq_iff_eq] at hx ⊢; exact hx.symm
          have HV3 := hide (show verN7 o v = (k : Int) + 1 by rw [HV2.out, HHit.out hx, if_pos (by omega)])
          have hsum : IntKind.i64.wrap ((k : Int) + 1) = (k : Int) + 1 := by rw [IntKind.wrap_i64]; omega
          clear HHit HMs hx
          go_wp2_with fail
          go_ret
          exact ⟨ret_int HV3.out.symm, rfl⟩
        | false =>
          have hx2 : (x == v) = false := by rw [beq_eq_false_iff_ne] at hx ⊢; exact fun e => hx e.symm
          have HM2 := hide (HMs.out hx)
          clear HHit HMs hx
          go_wp2_with fail
          go_round
          case rel => exact ⟨k + 1, by omega, by go_num, HM2.out⟩
          case measure => simp [intOf]; omega
      · obtain rfl : k = o.length := by omega
        have HV3 := hide (show verN7 o v = -1 by rw [HV2.out, idx_miss (fun y => v == y) o (fun j hj => HI.out j hj hj)]; rfl)
        go_wp2_with fail
        go_ret
        exact ⟨ret_int HV3.out.symm, rfl⟩
def verO (h : List Txn) (os : List (List Int)) (key v : Int) : Int := if ordB h os && inR key 0 2 then verN7 (os.getD key.toNat []) v else -1
theorem ord_len {h : List Txn} {os : List (List Int)} (hv : ordB h os = true) : os.length = 3 := by
  unfold ordB at hv
  simp only [Bool.and_eq_true, decide_eq_true_eq] at hv
  exact hv.2.1
set_option maxRecDepth 10000 in
set_option maxHeartbeats 2000000 in
theorem implVersionOf (xs : List Txn) (os : List (List Int)) (key v : Int) (A B : Option Addr) (c d : Nat) (w : World) (hm : xs.length ≤ maxLen) (hmo : os.length ≤ 1048576) (hsz : ∀ o ∈ os, o.length ≤ 1048576) (hA : Row tTxn w (Old w) A xs) (hB : Row (tSlice tInt) w (Old w) B os) :
    Calls Tryd.prog 39 #[.slice A xs.length c, .slice B os.length d, .int .i64 key, .int .i64 v] w fun e w' => e = .returned (.int .i64 (verO xs os key v)) ∧ Below w.heap.size w w' := by
  have HC := hide (implOrdersValid xs os A B c d w hm hmo hsz hA hB)
  have HR := hide (show verO xs os key v = if ordB xs os && inR key 0 2 then verN7 (os.getD key.toNat []) v else -1 from rfl)
  cases hv : ordB xs os with
  | false =>
    rw [hv] at HC HR
    clear hv hA hB
    go_enter Tryd.func39, Tryd.ntmps39
    go_wp2_with (go_at_call 94; refine HC.out.mono ?_; rintro e w1 ⟨rfl, hb1⟩; have HB1 := hide hb1; clear hb1)
    go_ret
    exact ⟨ret_int HR.out.symm, HB1.out⟩
  | true =>
    have hl3 := hide (ord_len hv)
    rw [hv] at HC HR
    cases hk : inR key 0 2 with
    | false =>
      rw [hk] at HR
      clear hv hA hB
      go_enter Tryd.func39, Tryd.ntmps39
      go_wp2_with (first | (go_at_call 94; refine HC.out.mono ?_; rintro e w1 ⟨rfl, hb1⟩; have HB1 := hide hb1; clear hb1) | (go_at_call 95; refine (keyOk _ _).mono ?_; rintro e w' ⟨rfl, rfl⟩; rw [hk]))
      go_ret
      exact ⟨ret_int HR.out.symm, HB1.out⟩
    | true =>
      rw [hk] at HR
      obtain ⟨hk0, hk2⟩ := inR_iff.1 hk
      obtain ⟨n, rfl⟩ : ∃ n : Nat, key = (n : Int) := ⟨key.toNat, by omega⟩
      have hn : n < os.length := by have := hl3.out; omega
      have HR := hide (show verO xs os (n : Int) v = verN7 os[n] v by
        rw [HR.out]
        show verN7 (os.getD (n : Int).toNat []) v = _
        rw [Int.toNat_natCast, getD_at hn])
      have HBs := hide (fun (W : World) (hW : Below w.heap.size w W) => at_IntS hB hW hn)
      have hol := hsz _ (List.getElem_mem hn)
      have hq3 : os.length ≤ 9223372036854775807 := by omega
      clear hv hA hB hsz
      go_enter Tryd.func39, Tryd.ntmps39
      go_upto_region 3 with (first | (go_at_call 94; refine HC.out.mono ?_; rintro e w1 ⟨rfl, hb1⟩; have HB1 := hide hb1; clear hb1) | (go_at_call 95; refine (keyOk _ _).mono ?_; rintro e w' ⟨rfl, rfl⟩; rw [hk]))
      obtain ⟨b, off, A2, c2, hBe, hbS, d0, hs1, hs2, hs3⟩ := HBs.out w1 HB1.out
      subst hBe
      have HVr := hide (implVersion os[n] v A2 c2 w1 hol hs3)
      generalize os[n] = O at d0 hs1 hs3 hol HVr HR
      clear hs3 HBs
      go_wp2_with (go_at_call 96; refine HVr.out.mono ?_; rintro e w' ⟨rfl, rfl⟩)
      go_ret
      exact ⟨ret_int HR.out.symm, HB1.out⟩
set_option maxRecDepth 10000 in
set_option maxHeartbeats 2000000 in
theorem specVersionOf (xs : List Txn) (os : List (List Int)) (key v : Int) (A B : Option Addr) (c d : Nat) (w : World) (hm : xs.length ≤ maxLen) (ht : opsN xs ≤ 1048576) (hmo : os.length ≤ 1048576) (hsz : ∀ o ∈ os, o.length ≤ 1048576) (hA : Row tTxn w (Old w) A xs) (hB : Row (tSlice tInt) w (Old w) B os) :
    Calls Tryd.prog 40 #[.slice A xs.length c, .slice B os.length d, .int .i64 key, .int .i64 v] w fun e w' => e = .returned (.int .i64 (verO xs os key v)) ∧ Below w.heap.size w w' := by
  have HC := hide (specOrdersValid xs os A B c d w hm ht hmo hsz hA hB)
  have HR := hide (show verO xs os key v = if ordB xs os && inR key 0 2 then verN7 (os.getD key.toNat []) v else -1 from rfl)
  cases hv : ordB xs os with
  | false =>
    rw [hv] at HC HR
    clear hv hA hB
    go_enter Tryd.func40, Tryd.ntmps40
    go_wp2_with (go_at_call 97; refine HC.out.mono ?_; rintro e w1 ⟨rfl, hb1⟩; have HB1 := hide hb1; clear hb1)
    go_ret
    exact ⟨ret_int HR.out.symm, HB1.out⟩
  | true =>
    have hl3 := hide (ord_len hv)
    rw [hv] at HC HR
    cases hk : inR key 0 2 with
    | false =>
      rw [hk] at HR
      clear hv hA hB
      go_enter Tryd.func40, Tryd.ntmps40
      go_wp2_with (first | (go_at_call 97; refine HC.out.mono ?_; rintro e w1 ⟨rfl, hb1⟩; have HB1 := hide hb1; clear hb1) | (go_at_call 53; refine (l1In _ _ _ _).mono ?_; rintro e w' ⟨rfl, rfl⟩; rw [hk]))
      go_ret
      exact ⟨ret_int HR.out.symm, HB1.out⟩
    | true =>
      rw [hk] at HR
      obtain ⟨hk0, hk2⟩ := inR_iff.1 hk
      obtain ⟨n, rfl⟩ : ∃ n : Nat, key = (n : Int) := ⟨key.toNat, by omega⟩
      have hn : n < os.length := by have := hl3.out; omega
      have HR := hide (show verO xs os (n : Int) v = verN7 os[n] v by
        rw [HR.out]
        show verN7 (os.getD (n : Int).toNat []) v = _
        rw [Int.toNat_natCast, getD_at hn])
      have HBs := hide (fun (W : World) (hW : Below w.heap.size w W) => at_IntS hB hW hn)
      have hol := hsz _ (List.getElem_mem hn)
      have hq3 : os.length ≤ 9223372036854775807 := by omega
      clear hv hA hB hsz
      go_enter Tryd.func40, Tryd.ntmps40
      go_upto_region 3 with (first | (go_at_call 97; refine HC.out.mono ?_; rintro e w1 ⟨rfl, hb1⟩; have HB1 := hide hb1; clear hb1) | (go_at_call 53; refine (l1In _ _ _ _).mono ?_; rintro e w' ⟨rfl, rfl⟩; rw [hk]))
      obtain ⟨b, off, A2, c2, hBe, hbS, d0, hs1, hs2, hs3⟩ := HBs.out w1 HB1.out
      subst hBe
      have HVr := hide (specVersion os[n] v A2 c2 w1 hol hs3)
      generalize os[n] = O at d0 hs1 hs3 hol HVr HR
      clear hs3 HBs
      go_wp2_with (go_at_call 98; refine HVr.out.mono ?_; rintro e w' ⟨rfl, rfl⟩)
      go_ret
      exact ⟨ret_int HR.out.symm, HB1.out⟩
end Go.Proofs.YtaaagoppecnmmaaDoor
