/- The law FnSnapshotRight: schedules have everything twice. -/
import Derived.Test.YtaaagoppecnmmaaDoorDrawSR
import Derived.Test.YtaaagoppecnmmaaDoorSnapS
import Derived.Test.YtaaagoppecnmmaaDoorDoneI
namespace Go.Proofs.YtaaagoppecnmmaaDoor
open Go.RowKit
set_option linter.unusedVariables false
set_option linter.unusedSimpArgs false

theorem srB_parts7 {h : List Txn} {p : List Int} (hs : srB h p = true) : histV h = true ∧ p.length = 2 * (doneL h).length := by
  unfold srB at hs
  simp only [Bool.and_eq_true, decide_eq_true_eq] at hs
  exact ⟨hs.1.1.1, hs.1.2⟩
theorem srB_take {h : List Txn} {p : List Int} (hs : srB h p = true) (hp : 0 < p.length) : srB h (p.take (p.length - 1)) = false := by
  have h1 := (srB_parts7 hs).2
  cases hq : srB h (p.take (p.length - 1)) with
  | false => rfl
  | true =>
    have h2 := (srB_parts7 hq).2
    rw [List.length_take] at h2
    omega
set_option maxRecDepth 10000 in
set_option maxHeartbeats 4000000 in
theorem lawFnSnapR (bs : List Int) (A : Option Addr) (c : Nat) (w : World) (hm : bs.length ≤ maxLen) (hc : bs.length ≤ c) (hcm : c ≤ maxLen) (hA : Row tByte w (Old w) A bs) :
    Calls Tryd.prog 7 #[.slice A bs.length c] w fun e w' => e = .returned (.bool true) ∧ Below w.heap.size w w' := by
  have hq : bs.length ≤ 9223372036854775807 := by simpa [maxLen] using hm
  by_cases hl : bs.length ≤ 1048576
  · have HD := hide (drawSnapshotRight bs A c w hl hc hcm hA)
    clear hA
    go_enter Tryd.func7, Tryd.ntmps7
    go_wp2_with fail
    refine HD.out.mono ?_
    rintro e w1 ⟨xs, o, v, u, rfl, hS, hol, ho, hu, hb1⟩
    have HB1 := hide hb1
    clear hb1 HD
    obtain ⟨Ax, cx, rfl, hlex, hcmx, hrx⟩ := ho.oldE
    have Hx1 := hide hrx
    clear hrx ho
    obtain ⟨Ay, cy, rfl, hley, hcmy, hry⟩ := hu.oldE
    have Hy1 := hide hry
    clear hry hu
    obtain ⟨hxm, hx20, hxo, hxn⟩ := hS.le
    have hom : o.length ≤ 1048576 := by omega
    have homm : o.length ≤ maxLen := by simp only [maxLen]; omega
    go_wp2_with fail
    refine (implSnapshotRight xs o _ _ _ _ w1 hxm hom Hx1.out Hy1.out).mono ?_
    rintro e w2 ⟨rfl, hb⟩
    have Hx2 := hide (Hx1.out.old hb)
    have Hy2 := hide (Hy1.out.old hb)
    have HB2 := hide (HB1.out.trans (hb.mono HB1.out.size))
    clear hb HB1 Hx1 Hy1
    go_wp2_with fail
    refine (specSnapshotRight xs o _ _ _ _ w2 hxm hxo hom hley hcmy Hx2.out Hy2.out).mono ?_
    rintro e w3 ⟨rfl, hb⟩
    have Hx3 := hide (Hx2.out.old hb)
    have Hy3 := hide (Hy2.out.old hb)
    have HB3 := hide (HB2.out.trans (hb.mono HB2.out.size))
    clear hb HB2 Hx2 Hy2
    cases hbb : srB xs o with
    | false =>
      clear hbb
      go_wp2_with fail
      refine (alive_any _).mono ?_
      rintro e w4 ⟨rfl, hb⟩
      have Hx4 := hide (Hx3.out.old hb)
      have Hy4 := hide (Hy3.out.old hb)
      have HB4 := hide (HB3.out.trans (hb.mono HB3.out.size))
      clear hb HB3 Hx3 Hy3
      go_wp2_with fail
      go_ret
      exact ⟨rfl, HB4.out⟩
    | true =>
      obtain ⟨hv, hl2⟩ := srB_parts7 hbb
      have HD := hide (show doneR xs = doneL xs by unfold doneR; rw [hv]; rfl)
      have HT := hide (srB_take hbb)
      have HL := hide (show o.length = 2 * (doneR xs).length by rw [HD.out]; exact hl2)
      clear hbb hv hl2
      go_wp2_with fail
      refine (implDoneTxns xs _ _ w3 hx20 Hx3.out).mono ?_
      rintro e w4 ⟨v6, rfl, hO6, hb⟩
      have Hx4 := hide (Hx3.out.old hb)
      have Hy4 := hide (Hy3.out.old hb)
      have HB4 := hide (HB3.out.trans (hb.mono HB3.out.size))
      clear hb HB3 Hx3 Hy3
      obtain ⟨Ad, cd, rfl, hled, hcmd, hrd⟩ := hO6.sl.fresh
      have Hd4 := hide hrd
      clear hrd hO6
      generalize doneR xs = ds at HD HL hled Hd4 ⊢
      have hd8 : ds.length ≤ 100 := by have := HL.out; omega
      obtain ⟨no, hno⟩ : ∃ n, n = o.length := ⟨_, rfl⟩
      rw [← hno] at hley hol ⊢
      have HNo := hide hno
      clear hno hom homm
      by_cases h0 : no = 0
      · skip
        subst h0
        have hE : ((0 : Int) == 2 * (ds.length : Int)) = true := by have h1 := HL.out; have h2 := HNo.out; rw [beq_iff_eq]; omega
        go_wp2_with fail
        go_ret
        exact ⟨rfl, HB4.out⟩
      · skip
        obtain ⟨m, hm⟩ : ∃ m : Nat, no = m + 1 := ⟨no - 1, by omega⟩
        subst hm
        have h0b : ((m : Int) + 1 == 0) = false := by rw [beq_eq_false_iff_ne]; omega
        have hE : ((m : Int) + 1 == 2 * (ds.length : Int)) = true := by have h1 := HL.out; have h2 := HNo.out; rw [beq_iff_eq]; omega
        have hmi : (m : Int) ≤ 100 := by omega
        have HTk := hide (show (o.take m).length = m by rw [List.length_take]; have := HNo.out; omega)
        have HRk := hide (show Row tInt w4 (Old w4) Ay (o.take m) from fun hp => by
          obtain ⟨b, off, hAe, hbS, hrow⟩ := Hy4.out (by rw [List.length_take] at hp; omega)
          exact ⟨b, off, hAe, hbS, fun k hk => by
            rw [List.length_take] at hk
            obtain ⟨cs, hr, hcs⟩ := hrow k (by omega)
            exact ⟨cs, by rw [List.getElem_take]; exact hr, hcs⟩⟩)
        have HSf := hide (show srB xs (o.take m) = false by
          have h1 := HT.out (by have := HNo.out; omega)
          rw [show o.length - 1 = m by have := HNo.out; omega] at h1
          exact h1)
        have HC := hide (implSnapshotRight xs (o.take m) Ax Ay cx cy w4 hxm (by rw [HTk.out]; omega) Hx4.out HRk.out)
        rw [HTk.out, HSf.out] at HC
        have hmc : (m : Int) ≤ (cy : Int) := by omega
        clear h0 hley hol hm
        go_wp2_with fail
        refine HC.out.mono ?_
        rintro e wz ⟨rfl, hb⟩
        have HBz := hide (HB4.out.trans (hb.mono HB4.out.size))
        clear hb
        go_wp2_with fail
        go_ret
        exact ⟨rfl, HBz.out⟩
  · clear hA
    go_enter Tryd.func7, Tryd.ntmps7
    go_wp2_with fail
    go_ret
    exact ⟨rfl, Below.refl _ _⟩
end Go.Proofs.YtaaagoppecnmmaaDoor
