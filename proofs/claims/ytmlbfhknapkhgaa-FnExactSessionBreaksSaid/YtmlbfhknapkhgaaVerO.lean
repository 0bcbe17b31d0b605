/- The two VersionOf. -/
import Derived.Test.YtmlbfhknapkhgaaVerS
namespace Go.Proofs.Ytmlbfhknapkhgaa
open Go.RowKit
set_option linter.unusedVariables false
set_option linter.unusedSimpArgs false

def verO (h : List Txn) (os : List (List Int)) (key v : Int) : Int := if ordB h os && inR key 0 2 then verN7 (os.getD key.toNat []) v else -1
theorem ord_len {h : List Txn} {os : List (List Int)} (hv : ordB h os = true) : os.length = 3 := by
  unfold ordB at hv
  simp only [Bool.and_eq_true, decide_eq_true_eq] at hv
  exact hv.2.1
set_option maxRecDepth 10000 in
set_option maxHeartbeats 2000000 in
theorem implVersionOf (xs : List Txn) (os : List (List Int)) (key v : Int) (A B : Option Addr) (c d : Nat) (w : World) (hm : xs.length ≤ maxLen) (hmo : os.length ≤ 1048576) (hsz : ∀ o ∈ os, o.length ≤ 1048576) (hA : Row tTxn w (Old w) A xs) (hB : Row (tSlice tInt) w (Old w) B os) :
    Calls Try.prog 44 #[.slice A xs.length c, .slice B os.length d, .int .i64 key, .int .i64 v] w fun e w' => e = .returned (.int .i64 (verO xs os key v)) ∧ Below w.heap.size w w' := by
  have HC := hide (implOrdersValid xs os A B c d w hm hmo hsz hA hB)
  have HR := hide (show verO xs os key v = if ordB xs os && inR key 0 2 then verN7 (os.getD key.toNat []) v else -1 from rfl)
  cases hv : ordB xs os with
  | false =>
    rw [hv] at HC HR
    clear hv hA hB
    go_enter Try.func44, Try.ntmps44
    go_wp2_with (go_at_call 92; refine HC.out.mono ?_; rintro e w1 ⟨rfl, hb1⟩; have HB1 := hide hb1; clear hb1)
    go_ret
    exact ⟨ret_int HR.out.symm, HB1.out⟩
  | true =>
    have hl3 := hide (ord_len hv)
    rw [hv] at HC HR
    cases hk : inR key 0 2 with
    | false =>
      rw [hk] at HR
      clear hv hA hB
      go_enter Try.func44, Try.ntmps44
      go_wp2_with (first | (go_at_call 92; refine HC.out.mono ?_; rintro e w1 ⟨rfl, hb1⟩; have HB1 := hide hb1; clear hb1) | (go_at_call 93; refine (keyOk _ _).mono ?_; rintro e w' ⟨rfl, rfl⟩; rw [hk]))
      go_ret
      exact ⟨ret_int HR.out.symm, HB1.out⟩
    | true =>
      rw [hk] at HR
      obtain ⟨hk0, hk2⟩ := inR_iff.1 hk
      obtain ⟨n, rfl⟩ : ∃ n : Nat, key = (n : Int) := ⟨key.toNat, by omega⟩
      have hn : n < os.length := by have := hl3.out; omega
      have HR := hide (show verO xs os (n : Int) v = verN7 os[n] v by
        rw [HR.out]
        show verN7 (os.getD (n : Int).toNat []) v = _
        rw [Int.toNat_natCast, getD_at hn])
      have HBs := hide (fun (W : World) (hW : Below w.heap.size w W) => at_IntS hB hW hn)
      have hol := hsz _ (List.getElem_mem hn)
      have hq3 : os.length ≤ 9223372036854775807 := by omega
      clear hv hA hB hsz
      go_enter Try.func44, Try.ntmps44
      go_upto_region 3 with (first | (go_at_call 92; refine HC.out.mono ?_; rintro e w1 ⟨rfl, hb1⟩; have HB1 := hide hb1; clear hb1) | (go_at_call 93; refine (keyOk _ _).mono ?_; rintro e w' ⟨rfl, rfl⟩; rw [hk]))
      obtain ⟨b, off, A2, c2, hBe, hbS, d0, hs1, hs2, hs3⟩ := HBs.out w1 HB1.out
      subst hBe
      have HVr := hide (implVersion os[n] v A2 c2 w1 hol hs3)
      generalize os[n] = O at d0 hs1 hs3 hol HVr HR
      clear hs3 HBs
      go_wp2_with (go_at_call 94; refine HVr.out.mono ?_; rintro e w' ⟨rfl, rfl⟩)
      go_ret
      exact ⟨ret_int HR.out.symm, HB1.out⟩
set_option maxRecDepth 10000 in
set_option maxHeartbeats 2000000 in
theorem specVersionOf (xs : List Txn) (os : List (List Int)) (key v : Int) (A B : Option Addr) (c d : Nat) (w : World) (hm : xs.length ≤ maxLen) (ht : opsN xs ≤ 1048576) (hmo : os.length ≤ 1048576) (hsz : ∀ o ∈ os, o.length ≤ 1048576) (hA : Row tTxn w (Old w) A xs) (hB : Row (tSlice tInt) w (Old w) B os) :
    Calls Try.prog 42 #[.slice A xs.length c, .slice B os.length d, .int .i64 key, .int .i64 v] w fun e w' => e = .returned (.int .i64 (verO xs os key v)) ∧ Below w.heap.size w w' := by
  have HC := hide (specOrdersValid xs os A B c d w hm ht hmo hsz hA hB)
  have HR := hide (show verO xs os key v = if ordB xs os && inR key 0 2 then verN7 (os.getD key.toNat []) v else -1 from rfl)
  cases hv : ordB xs os with
  | false =>
    rw [hv] at HC HR
    clear hv hA hB
    go_enter Try.func42, Try.ntmps42
    go_wp2_with (go_at_call 90; refine HC.out.mono ?_; rintro e w1 ⟨rfl, hb1⟩; have HB1 := hide hb1; clear hb1)
    go_ret
    exact ⟨ret_int HR.out.symm, HB1.out⟩
  | true =>
    have hl3 := hide (ord_len hv)
    rw [hv] at HC HR
    cases hk : inR key 0 2 with
    | false =>
      rw [hk] at HR
      clear hv hA hB
      go_enter Try.func42, Try.ntmps42
      go_wp2_with (first | (go_at_call 90; refine HC.out.mono ?_; rintro e w1 ⟨rfl, hb1⟩; have HB1 := hide hb1; clear hb1) | (go_at_call 50; refine (l1In _ _ _ _).mono ?_; rintro e w' ⟨rfl, rfl⟩; rw [hk]))
      go_ret
      exact ⟨ret_int HR.out.symm, HB1.out⟩
    | true =>
      rw [hk] at HR
      obtain ⟨hk0, hk2⟩ := inR_iff.1 hk
      obtain ⟨n, rfl⟩ : ∃ n : Nat, key = (n : Int) := ⟨key.toNat, by omega⟩
      have hn : n < os.length := by have := hl3.out; omega
      have HR := hide (show verO xs os (n : Int) v = verN7 os[n] v by
        rw [HR.out]
        show verN7 (os.getD (n : Int).toNat []) v = _
        rw [Int.toNat_natCast, getD_at hn])
      have HBs := hide (fun (W : World) (hW : Below w.heap.size w W) => at_IntS hB hW hn)
      have hol := hsz _ (List.getElem_mem hn)
      have hq3 : os.length ≤ 9223372036854775807 := by omega
      clear hv hA hB hsz
      go_enter Try.func42, Try.ntmps42
      go_upto_region 3 with (first | (go_at_call 90; refine HC.out.mono ?_; rintro e w1 ⟨rfl, hb1⟩; have HB1 := hide hb1; clear hb1) | (go_at_call 50; refine (l1In _ _ _ _).mono ?_; rintro e w' ⟨rfl, rfl⟩; rw [hk]))
      obtain ⟨b, off, A2, c2, hBe, hbS, d0, hs1, hs2, hs3⟩ := HBs.out w1 HB1.out
      subst hBe
      have HVr := hide (specVersion os[n] v A2 c2 w1 hol hs3)
      generalize os[n] = O at d0 hs1 hs3 hol HVr HR
      clear hs3 HBs
      go_wp2_with (go_at_call 91; refine HVr.out.mono ?_; rintro e w' ⟨rfl, rfl⟩)
      go_ret
      exact ⟨ret_int HR.out.symm, HB1.out⟩
end Go.Proofs.Ytmlbfhknapkhgaa
