/- The reference's FindSerial: the first right serial order. -/
import Derived.Test.YtmlbfhknapkhgaaFindS
namespace Go.Proofs.Ytmlbfhknapkhgaa
open Go.RowKit
set_option linter.unusedVariables false

def serF (xs : List Txn) : Option (List Int) := firstGood (runsOK xs) (doneL xs)
def findF (xs : List Txn) : Option (List Int) := if histV xs then serF xs else none
theorem l12F_all (xs : List Txn) : l12F xs (doneL xs).length [] (doneL xs) = serF xs := by
  unfold l12F
  rw [if_pos (show runsOK xs [] = true from rfl), dfs_perms (runsOK xs) (runsOK_prefix xs) _ _ _ rfl rfl]
  unfold serF firstGood perms
  rw [permsI_eq_E (doneL xs).length (doneL xs) (doneI_nodup xs _), find_as_some]
  apply findSome_ext
  intro o _
  simp
set_option maxRecDepth 10000 in
set_option maxHeartbeats 1000000 in
theorem specFindSerial (xs : List Txn) (A : Option Addr) (c : Nat) (w : World) (hm : xs.length ≤ maxLen) (ht : opsN xs ≤ 1048576) (hA : Row tTxn w (Old w) A xs) :
    Calls Try.prog 67 #[.slice A xs.length c] w (FindPost (findF xs) w.heap.size w) := by
  have HC := hide (specHistoryValid xs A c w hm hA ht)
  have HD := hide (fun (W : World) (hb : Below w.heap.size w W) => specDoneTxns xs A c W hm ht (hA.old hb))
  have HA := hide hA
  have HM := hide hm
  clear hA hm ht
  cases hv : histV xs with
  | false =>
    have HF := hide (show findF xs = none by unfold findF; rw [hv]; rfl)
    rw [hv] at HC
    clear hv
    go_enter Try.func67, Try.ntmps67
    go_wp2_with (go_at_call 49; refine HC.out.mono ?_; rintro e w2 ⟨rfl, hb2⟩)
    go_ret2
    unfold FindPost
    rw [HF.out]
    exact ⟨_, rfl, Sl.zero_, hb2.trans ((Below.refl _ w2).alloc (Nat.le_refl _) _ |>.mono hb2.size)⟩
  | true =>
    have h6 := (histV_parts hv).1
    have hts := (histV_parts hv).2
    have HF := hide (show findF xs = l12F xs (doneL xs).length [] (doneL xs) by unfold findF; rw [hv, l12F_all]; rfl)
    have hDl : (doneL xs).length ≤ 6 := Nat.le_trans (doneI_len xs _) h6
    have HDr := hide (show doneR xs = doneL xs by unfold doneR; rw [hv]; rfl)
    have HFi := hide (fun (B C : Option Addr) (f : Nat) (W : World) (lo : Nat) => find_any xs A c HM.out (fun t ht => (txnOk_parts (hts t ht)).1) (doneL xs).length [] (doneL xs) B C 0 f W lo rfl (by simpa using hDl) (doneI_nodup xs _) (fun x hx => by cases hx) (fun x hx => doneI_mem xs _ x hx) (Nat.le_refl _) (by simp [maxLen]))
    rw [hv] at HC
    clear hv hts
    rw [HDr.out] at HD
    go_enter Try.func67, Try.ntmps67
    go_wp2_with (first | (go_at_call 49; refine HC.out.mono ?_; rintro e w1 ⟨rfl, hb1⟩; have HB1 := hide (hb1.trans ((Below.refl _ w1).alloc (Nat.le_refl _) (.cells #[] 3) |>.mono hb1.size)); clear hb1) | (go_at_call 60; refine (HD.out _ HB1.out).mono ?_; rintro e w2 ⟨v2, rfl, hO2, hb2⟩; obtain ⟨A2, c2, rfl, h21, h22, h23⟩ := hO2.sl; have HB2 := hide (HB1.out.trans (hb2.mono HB1.out.size)); have HR2 := hide h23; clear hO2 hb2 h23) | (go_at_call 122; refine (HFi.out _ A2 c2 w2 w.heap.size h21 h22 HB2.out.size (HA.out.old HB2.out) Row.nil (HR2.out.mono (fun b h => h.2) (fun _ _ => rfl))).mono ?_; rintro e w3 ⟨v3, rfl, hS3, hb3⟩))
    go_ret2
    unfold FindPost
    rw [HF.out]
    exact ⟨_, rfl, hS3, HB2.out.trans (hb3.mono HB2.out.size)⟩
end Go.Proofs.Ytmlbfhknapkhgaa
