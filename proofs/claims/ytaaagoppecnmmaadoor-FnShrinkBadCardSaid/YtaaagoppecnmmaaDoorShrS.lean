/- The reference's ShrinkBad. -/
import Derived.Test.YtaaagoppecnmmaaDoorShrM
import Derived.Test.YtaaagoppecnmmaaDoorCopyS
import Derived.Test.YtaaagoppecnmmaaDoorHolds
namespace Go.Proofs.YtaaagoppecnmmaaDoor
open Go.RowKit
set_option linter.unusedVariables false
set_option linter.unusedSimpArgs false

theorem Sl.zeroT {w : World} {S : Nat → Prop} {A : Option Addr} : Sl tTxn w S [] (.slice A 0 0) := ⟨A, 0, rfl, Nat.le_refl _, by simp [maxLen], Row.nil⟩
set_option maxRecDepth 10000 in
set_option maxHeartbeats 2000000 in
theorem specShrinkBad (xs : List Txn) (A : Option Addr) (c : Nat) (w : World) (hm : xs.length ≤ maxLen) (ht : opsN xs ≤ 1048576) (hA : Row tTxn w (Old w) A xs) :
    Calls Tryd.prog 26 #[.slice A xs.length c] w fun e w' => ∃ v, e = .returned (.tuple #[v, .bool (badB xs)]) ∧ Sl tTxn w' (New w w') (badR xs) v ∧ Below w.heap.size w w' := by
  have HFi := hide (specFindSerial xs A c w hm ht hA)
  have HH := hide (fun (W : World) (hb : Below w.heap.size w W) => specHistoryValid xs A c W hm (hA.old hb) ht)
  have HA := hide hA
  have HM := hide hm
  clear hA hm ht
  cases hv : histV xs with
  | false =>
    have HB := hide (show badB xs = false by unfold badB; rw [hv]; rfl)
    have HR := hide (show badR xs = [] by unfold badR; rw [HB.out]; rfl)
    have hf : findF xs = none := by unfold findF; rw [hv]; rfl
    rw [hv] at HH
    rw [hf] at HFi
    clear hv hf
    go_enter Tryd.func26, Tryd.ntmps26
    go_wp2_with (first | (go_at_call 76; refine HFi.out.mono ?_; rintro e w1 ⟨v1, rfl, _, hb1⟩; have HB1 := hide hb1; clear hb1) | (go_at_call 52; refine (HH.out _ HB1.out).mono ?_; rintro e w2 ⟨rfl, hb2⟩; have HB2 := hide (HB1.out.trans (hb2.mono HB1.out.size)); clear hb2))
    go_ret2
    exact ⟨_, by rw [HB.out]; rfl, by rw [HR.out]; exact Sl.zeroT, HB2.out.trans ((Below.refl _ w2).alloc (Nat.le_refl _) _ |>.mono HB2.out.size)⟩
  | true =>
    obtain ⟨h6, ho6, hop⟩ := hist_small hv
    have hf : findF xs = serF xs := by unfold findF; rw [hv]; rfl
    cases hs : serX xs with
    | true =>
      have HB := hide (show badB xs = false by unfold badB; rw [hv, hs]; rfl)
      have HR := hide (show badR xs = [] by unfold badR; rw [HB.out]; rfl)
      obtain ⟨y, hy⟩ : ∃ y, findF xs = some y := by rw [hf]; exact Option.isSome_iff_exists.1 hs
      rw [hy] at HFi
      clear hv hs hy hf
      go_enter Tryd.func26, Tryd.ntmps26
      go_wp2_with (go_at_call 76; refine HFi.out.mono ?_; rintro e w1 ⟨v1, rfl, _, hb1⟩; have HB1 := hide hb1; clear hb1)
      go_ret2
      exact ⟨_, by rw [HB.out]; rfl, by rw [HR.out]; exact Sl.zeroT, HB1.out.trans ((Below.refl _ w1).alloc (Nat.le_refl _) _ |>.mono HB1.out.size)⟩
    | false =>
      have HB := hide (show badB xs = true by unfold badB; rw [hv, hs]; rfl)
      have HR := hide (show badR xs = shrT xs xs.length by unfold badR; rw [HB.out]; rfl)
      have HCp := hide (fun (W : World) (hb : Below w.heap.size w W) => specCopy xs A c W (by omega) (fun x hx => by have := ho6 x hx; omega) (HA.out.old hb))
      have HV := hide (shr_valid hv)
      have hn : findF xs = none := by
        rw [hf]
        have h1 : (serF xs).isSome = false := hs
        cases h2 : serF xs with
        | none => rfl
        | some y => rw [h2] at h1; cases h1
      rw [hn] at HFi
      rw [hv] at HH
      clear hv hs ho6 hf hn
      go_enter Tryd.func26, Tryd.ntmps26
      go_wp2_with (first | (go_at_call 76; refine HFi.out.mono ?_; rintro e w1 ⟨v1, rfl, _, hb1⟩; have HB1 := hide hb1; clear hb1) | (go_at_call 52; refine (HH.out _ HB1.out).mono ?_; rintro e w2 ⟨rfl, hb2⟩; have HB2 := hide (HB1.out.trans (hb2.mono HB1.out.size)); clear hb2) | (go_at_call 77; refine (HCp.out _ HB2.out).mono ?_; rintro e w3 ⟨v3, rfl, hF3, hb3⟩; have HF3 := hide (hF3.slNew.mono (S' := In w.heap.size w3.heap.size) (fun b h => ⟨Nat.le_trans HB2.out.size h.1, h.2⟩) (fun _ _ => rfl)); have HB3 := hide (HB2.out.trans (hb3.mono HB2.out.size)); clear hF3 hb3))
      go_loopw [6, 7, 8, 9, 10, 11] (fun v n _ _ _ _ wr => ∃ (j : Nat) (z : Int), j ≤ xs.length ∧ z = (xs.length : Int) - 1 - (j : Int) ∧ n = .int .i64 z ∧ Hid (Sl tTxn wr (In w.heap.size wr.heap.size) (shrT xs j) v) ∧ Hid (Below w.heap.size w wr)) (fun _ n _ _ _ _ _ => (intOf n + 1).toNat)
      case atStart => exact ⟨0, (xs.length : Int) - 1, Nat.zero_le _, by omega, by go_num, HF3.out, HB3.out⟩
      case round =>
        obtain ⟨j, z, hj, hz, rfl, hH, hb⟩ := hrel
        by_cases hlt : j < xs.length
        · obtain ⟨m, rfl⟩ : ∃ m : Nat, z = (m : Int) := ⟨xs.length - 1 - j, by omega⟩
          have hmj : m = xs.length - 1 - j := by omega
          have HLn := hide (shr_len (xs := xs) j hj)
          have hml : m < (shrT xs j).length := by have := HLn.out; omega
          have HSh := hide (show shrT xs (j + 1) = shrStep (shrT xs j) m by rw [hmj]; rfl)
          have HVj := hide (HV.out j)
          have HVd := hide (dropL_valid (HV.out j) m)
          have Hb := hide hb.out
          have HHd := hide hH.out
          obtain ⟨A2, c2, rfl, h21, h22, hR2⟩ := hH.out
          have HR2 := hide (show Row tTxn wr (Old wr) A2 (shrT xs j) from fun hp => Row.mono (w' := wr) (S' := Old wr) hR2 (fun b h => h.2) (fun _ _ => rfl) hp)
          generalize shrT xs j = T at *
          obtain ⟨t6, to6, top⟩ := hist_small HVj.out
          obtain ⟨d6, do6, dop⟩ := hist_small HVd.out
          have hdB : dropB T m = true := by unfold dropB; rw [HVj.out, inR_iff.2 ⟨by omega, by omega⟩]; rfl
          have hdR : dropR T m = dropL T m := by unfold dropR; rw [hdB]; simp
          have HDr0 := specDropTxnR T m A2 c2 wr (by omega) (fun x hx => by have := to6 x hx; omega) (by omega) HR2.out
          rw [hdB, hdR] at HDr0
          have HDr := hide HDr0
          have hfd : findF (dropL T m) = serF (dropL T m) := by unfold findF; rw [HVd.out]; rfl
          have HFd := hide (fun (B : Option Addr) (d : Nat) (W : World) (hR : Row tTxn W (Old W) B (dropL T m)) => show Calls Tryd.prog 76 #[.slice B (dropL T m).length d] W (FindPost (serF (dropL T m)) W.heap.size W) from hfd ▸ specFindSerial (dropL T m) B d W (by simp only [maxLen]; omega) (by omega) hR)
          have hz1 : (m : Int) - 1 = (xs.length : Int) - 1 - ((j + 1 : Nat) : Int) := by omega
          have Hz1 := hide hz1
          have hm6 : m ≤ 6 := by omega
          clear hH hb hR2 hmj hz1 hz HDr0 hdB hdR hfd to6 do6
          cases hs : serF (dropL T m) with
          | some y =>
            have HN := hide (show shrT xs (j + 1) = T from HSh.out.trans (shrStep_t (by unfold serX; rw [hs]; rfl)))
            rw [hs] at HFd
            clear hs
            go_wp2_with (first | (go_at_call 14; refine HDr.out.mono ?_; rintro e w4 ⟨v4, rfl, hF4, hb4⟩; obtain ⟨A4, c4, rfl, h41, h42, hR4⟩ := hF4; have HR4 := hide (show Row tTxn w4 (Old w4) A4 (dropL T m) from fun hp => Row.mono (w' := w4) (S' := Old w4) hR4 (fun b h => h.2) (fun _ _ => rfl) hp); have HB4 := hide hb4; clear hb4 hR4) | (go_at_call 76; refine (HFd.out A4 c4 w4 HR4.out).mono ?_; rintro e w5 ⟨v5, rfl, _, hb5⟩; have HB5 := hide (HB4.out.trans (hb5.mono HB4.out.size)); clear hb5))
            go_roundw
            case rel => exact ⟨j + 1, (m : Int) - 1, hlt, Hz1.out, by go_num, by rw [HN.out]; exact HHd.out.mono (fun b h => ⟨h.1, Nat.lt_of_lt_of_le h.2 HB5.out.size⟩) (fun b h => HB5.out.block b h.2), Hb.out.trans (HB5.out.mono Hb.out.size)⟩
            case measure => simp [intOf]
          | none =>
            have HN := hide (show shrT xs (j + 1) = dropL T m from HSh.out.trans (shrStep_f (by unfold serX; rw [hs]; rfl)))
            rw [hs] at HFd
            clear hs
            go_wp2_with (first | (go_at_call 14; refine HDr.out.mono ?_; rintro e w4 ⟨v4, rfl, hF4, hb4⟩; have HF4 := hide hF4; obtain ⟨A4, c4, rfl, h41, h42, hR4⟩ := hF4; have HR4 := hide (show Row tTxn w4 (Old w4) A4 (dropL T m) from fun hp => Row.mono (w' := w4) (S' := Old w4) hR4 (fun b h => h.2) (fun _ _ => rfl) hp); have HB4 := hide hb4; clear hb4 hR4) | (go_at_call 76; refine (HFd.out A4 c4 w4 HR4.out).mono ?_; rintro e w5 ⟨v5, rfl, _, hb5⟩; have HB5 := hide (HB4.out.trans (hb5.mono HB4.out.size)); have HBy := hide hb5; clear hb5))
            go_roundw
            case rel => exact ⟨j + 1, (m : Int) - 1, hlt, Hz1.out, by go_num, by rw [HN.out]; exact HF4.out.mono (fun b h => ⟨Nat.le_trans Hb.out.size h.1, Nat.lt_of_lt_of_le h.2 HBy.out.size⟩) (fun b h => HBy.out.block b h.2), Hb.out.trans (HB5.out.mono Hb.out.size)⟩
            case measure => simp [intOf]
        · obtain rfl : j = xs.length := by omega
          obtain rfl : z = -1 := by omega
          have HHd := hide hH.out
          have Hb := hide hb.out
          clear hH hb hz
          go_wp2_with fail
          go_ret2
          exact ⟨_, by rw [HB.out]; rfl, by rw [HR.out]; exact HHd.out, Hb.out⟩
end Go.Proofs.YtaaagoppecnmmaaDoor
