/- Every transaction is allowed: the program's anyone. The program's FindSerial. -/
import Derived.Test.YtaaagoppecnmmaaGreatDoorFirst
import Derived.Test.YtaaagoppecnmmaaGreatDoorFindF
import Derived.Test.YtaaagoppecnmmaaGreatDoorHMath
namespace Go.Proofs.YtaaagoppecnmmaaGreatDoor
open Go.RowKit
set_option linter.unusedVariables false
set_option linter.unusedSimpArgs false

theorem goodR_any (h : List Txn) : goodR (fun _ _ => true) h = runsOK h := by
  funext o
  unfold goodR stepsOK
  simp
theorem serF_good (h : List Txn) : firstGood (goodR (fun _ _ => true) h) (doneL h) = serF h := by
  rw [goodR_any]
  rfl
theorem anyone_any (gone n : Int) (W : World) :
    Calls Tryz.prog 39 #[.int .u64 gone, .int .i64 n] W fun e w' => e = .returned (.bool true) ∧ W = w' := by
  go_enter Tryz.func39, Tryz.ntmps39
  go_wp2_with fail
  go_ret
  exact ⟨rfl, rfl⟩
set_option maxRecDepth 10000 in
set_option maxHeartbeats 1000000 in
theorem implFindSerial (xs : List Txn) (A : Option Addr) (c : Nat) (w : World) (hm : xs.length ≤ maxLen) (hA : Row tTxn w (Old w) A xs) :
    Calls Tryz.prog 11 #[.slice A xs.length c] w (FirstPost (findF xs) w) := by
  have HH := hide (implHistoryValid xs A c w hm hA)
  cases hv : histV xs with
  | false =>
    have HF := hide (show findF xs = none by unfold findF; rw [hv]; rfl)
    rw [hv] at HH
    clear hv hA hm
    go_enter Tryz.func11, Tryz.ntmps11
    go_wp2_with (go_at_call 27; refine HH.out.mono ?_; rintro e w' ⟨rfl, hb'⟩)
    go_ret2
    unfold FirstPost
    rw [HF.out]
    exact ⟨_, rfl, ⟨0, Hold.nil 0⟩, hb'⟩
  | true =>
    rw [hv] at HH
    have HF := hide (show findF xs = serF xs by unfold findF; rw [hv]; rfl)
    have HS := hide (fun (W : World) (hb : Below w.heap.size w W) => firstSerial_any xs A c W (fun _ _ => true) 39 #[] hv (hA.mono (fun b h => Nat.lt_of_lt_of_le h hb.size) (fun b h => hb.block b h)) (enters_of Tryz.func39 (by kernel_rfl) rfl)
      (fun W pre gone n hn hbt _ hb => (anyone_any gone n W).mono fun e w' ⟨h1, h2⟩ => ⟨h1, by rw [← h2]; exact Below.refl _ _⟩))
    rw [serF_good] at HS
    clear hv hA hm
    go_enter Tryz.func11, Tryz.ntmps11
    go_wp2_with (first | (go_at_call 27; refine HH.out.mono ?_; rintro e w1 ⟨rfl, hb1⟩; have HB1 := hide hb1; have HS2 := hide (HS.out w1 hb1); clear hb1) | (go_at_call 29; refine HS2.out.mono ?_; rintro e w2 ⟨v, rfl, hH, hb2⟩))
    go_ret2
    unfold FirstPost
    rw [HF.out]
    exact ⟨v, rfl, hH.imp fun g h => h.mono (fun b hb => ⟨Nat.le_trans HB1.out.size hb.1, hb.2⟩) (fun _ _ => rfl), HB1.out.trans (hb2.mono HB1.out.size)⟩
end Go.Proofs.YtaaagoppecnmmaaGreatDoor
