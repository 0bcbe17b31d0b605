/- The law FnStrictSession: strict orders follow sessions, if their spans do. -/
import Derived.Test.YtaaagoppecnmmaaDoorDrawFS
import Derived.Test.YtaaagoppecnmmaaDoorSameH
import Derived.Test.YtaaagoppecnmmaaDoorStriS
import Derived.Test.YtaaagoppecnmmaaDoorSesM
import Derived.Test.YtaaagoppecnmmaaDoorTabOf3
namespace Go.Proofs.YtaaagoppecnmmaaDoor
open Go.RowKit
set_option linter.unusedVariables false
set_option linter.unusedSimpArgs false

def badP (h : List Txn) (sp : List Span) (j k : Nat) : Bool := sesAt h j == sesAt h k && doneAt h j && doneAt h k && decide ((spI sp (k : Int)).From ≤ (spI sp (j : Int)).To)
theorem strict_ses {xs : List Txn} {sp : List Span} (hb : strBb xs sp = true) : sp.length = xs.length ∧ ((∀ k, k < xs.length → ∀ j, j < k → badP xs sp j k = false) → sesB xs = true) := by
  unfold strBb at hb
  cases hf : strF xs sp with
  | none => rw [hf] at hb; cases hb
  | some o =>
    unfold strF at hf
    split at hf
    · rename_i hc
      rw [Bool.and_eq_true] at hc
      obtain ⟨h1, h2⟩ := firstGood_perm (doneI_nodup _ _) hf
      unfold goodR at h2
      rw [Bool.and_eq_true] at h2
      have hin : ∀ x ∈ o, 0 ≤ x ∧ x < 6 := fun x hx => by
        have h3 := doneI_mem xs _ x (h1.mem_iff.1 hx)
        have h4 := (histV_parts hc.1).1
        omega
      rw [str_steps sp o hin] at h2
      refine ⟨(spansV_len hc.2).1, fun hall => ?_⟩
      unfold sesB sesF
      rw [if_pos hc.1]
      cases hs : firstGood (goodR (sesAlw xs) xs) (doneL xs) with
      | some o' => rfl
      | none =>
        have h5 := firstGood_none (doneI_nodup _ _) hs o h1
        unfold goodR at h5
        rw [h2.1, Bool.true_and] at h5
        have h6 : stepsOK (sesAlw xs) o = true := by
          rw [step_iff]
          intro l hl b hbm hlt hse
          obtain ⟨m, hm⟩ : ∃ m : Nat, b = (m : Int) := ⟨b.toNat, by have := doneI_mem xs _ b hbm; omega⟩
          subst hm
          have hol := h1.mem_iff.1 (List.getElem_mem hl)
          obtain ⟨n, hn⟩ : ∃ n : Nat, o[l] = (n : Int) := ⟨o[l].toNat, by have := doneI_mem xs _ _ hol; omega⟩
          rw [hn] at hlt hse hol
          obtain ⟨i, hi, hib⟩ := List.getElem_of_mem (h1.mem_iff.2 hbm)
          have hml := mem_doneL.1 hbm
          have hnl := mem_doneL.1 hol
          have hbad := hall n hnl.1 m (by omega)
          unfold badP at hbad
          rw [ses_same, ses_same] at hse
          rw [hse, hml.2, hnl.2] at hbad
          simp only [BEq.rfl, Bool.and_self, Bool.true_and, decide_eq_false_iff_not, Int.not_le] at hbad
          rcases Nat.lt_trichotomy i l with h7 | h7 | h7
          · exact List.mem_take_iff_getElem.2 ⟨i, by omega, hib⟩
          · subst h7; rw [hn] at hib; omega
          · have ht := h2.2
            unfold timeB at ht
            rw [List.all_eq_true] at ht
            have h8 := ht i (List.mem_range.2 hi)
            unfold rowT at h8
            rw [List.all_eq_true] at h8
            have h9 := h8 l (List.mem_range.2 h7)
            unfold spAt at h9
            rw [getD_get hi, getD_get hl, hib, hn] at h9
            unfold spI at hbad
            rw [Bool.not_eq_true', decide_eq_false_iff_not] at h9
            exact absurd hbad h9
        rw [h6] at h5
        cases h5
    · cases hf
set_option maxRecDepth 10000 in
set_option maxHeartbeats 4000000 in
theorem lawFnStrictSes (bs : List Int) (A : Option Addr) (c : Nat) (w : World) (hm : bs.length ≤ maxLen) (hc : bs.length ≤ c) (hcm : c ≤ maxLen) (hA : Row tByte w (Old w) A bs) (hT : TabDB w) :
    Calls Tryd.prog 4 #[.slice A bs.length c] w fun e w' => e = .returned (.bool true) ∧ Below w.heap.size w w' := by
  have hq : bs.length ≤ 9223372036854775807 := by simpa [maxLen] using hm
  by_cases hl : bs.length ≤ 1048576
  · have HD := hide (drawFindStrict bs A c w hl hc hcm hA)
    clear hA
    go_enter Tryd.func4, Tryd.ntmps4
    go_wp2_with fail
    refine HD.out.mono ?_
    rintro e w1 ⟨xs, sp, v, u, rfl, hS, hsl, ho, hu, hb1⟩
    have HB1 := hide hb1
    clear hb1 HD
    obtain ⟨Ax, cx, rfl, hlex, hcmx, hrx⟩ := ho.oldE
    have Hx1 := hide hrx
    clear hrx ho
    obtain ⟨As, cs, rfl, hles, hcms, hrs⟩ := hu.oldE
    have Hs1 := hide hrs
    clear hrs hu
    obtain ⟨hxm, hx20, hxo, hxn⟩ := hS.le
    have hsm : sp.length ≤ maxLen := by simp only [maxLen]; omega
    have HT := hide hT
    clear hT
    have HRl := hide (strR_len xs sp)
    have hrm : (strR xs sp).length ≤ maxLen := by have := HRl.out; simp only [maxLen]; omega
    go_wp2_with fail
    refine (implFindStrict xs sp _ _ _ _ w1 hxm hsm (Nat.lt_of_lt_of_le HT.out.lt HB1.out.size) (HT.out.below HT.out.lt HB1.out) Hx1.out Hs1.out).mono ?_
    rintro e w2 ⟨v2, rfl, hT2, hb⟩
    have Hx2 := hide (Hx1.out.old hb)
    have Hs2 := hide (Hs1.out.old hb)
    have HB2 := hide (HB1.out.trans (hb.mono HB1.out.size))
    clear hb HB1 Hx1 Hs1
    obtain ⟨Ay, cy, rfl, hley, hcmy, hry⟩ := hT2.sl.fresh
    have Hy2 := hide hry
    clear hry hT2
    go_wp2_with fail
    refine (specFindStrict xs sp _ _ _ _ w2 hxm hsm hxo Hx2.out Hs2.out).mono ?_
    rintro e w3 ⟨v3, rfl, hT3, hb⟩
    have Hx3 := hide (Hx2.out.old hb)
    have Hs3 := hide (Hs2.out.old hb)
    have Hy3 := hide (Hy2.out.old hb)
    have HB3 := hide (HB2.out.trans (hb.mono HB2.out.size))
    clear hb HB2 Hx2 Hs2 Hy2
    obtain ⟨Az, cz, rfl, hlez, hcmz, hrz⟩ := hT3.fresh
    have Hz3 := hide hrz
    clear hrz hT3
    go_wp2_with fail
    refine (sameInts_any (strR xs sp) (strR xs sp) _ _ _ _ w3 hrm hrm Hy3.out Hz3.out).mono ?_
    rintro e w4 ⟨rfl, hb⟩
    rw [decide_eq_true (rfl : strR xs sp = strR xs sp)]
    have Hx4 := hide (Hx3.out.old hb)
    have Hs4 := hide (Hs3.out.old hb)
    have Hy4 := hide (Hy3.out.old hb)
    have Hz4 := hide (Hz3.out.old hb)
    have HB4 := hide (HB3.out.trans (hb.mono HB3.out.size))
    clear hb HB3 Hx3 Hs3 Hy3 Hz3
    cases hbb : strBb xs sp with
    | false =>
      clear hbb
      generalize strR xs sp = rr at *
      go_wp2_with fail
      refine (alive_any _).mono ?_
      rintro e w5 ⟨rfl, hb⟩
      have Hx5 := hide (Hx4.out.old hb)
      have Hs5 := hide (Hs4.out.old hb)
      have Hy5 := hide (Hy4.out.old hb)
      have Hz5 := hide (Hz4.out.old hb)
      have HB5 := hide (HB4.out.trans (hb.mono HB4.out.size))
      clear hb HB4 Hx4 Hs4 Hy4 Hz4
      go_wp2_with fail
      go_ret
      exact ⟨rfl, HB5.out⟩
    | true =>
      obtain ⟨hl1, hl2⟩ := strict_ses hbb
      have HSL := hide hl2
      have HLn := hide hl1
      obtain ⟨nx, hnx⟩ : ∃ n, n = xs.length := ⟨_, rfl⟩
      have hx8 : nx ≤ 8 := by rw [hnx]; exact hS.1
      have HNx := hide hnx
      have HNs := hide (hl1.trans hnx.symm)
      clear hbb hl1 hl2
      have HXX := hide Hx4.out
      have HSS := hide Hs4.out
      rw [← hnx, HNs.out]
      clear hnx Hy4 Hz4
      go_wp2_with fail
      go_loopw [9, 10] (fun k _ wr => ∃ kk : Nat, kk ≤ nx ∧ k = .int .i64 kk ∧ Hid (∀ k, k < kk → ∀ j, j < k → badP xs sp j k = false) ∧ Hid (Below w4.heap.size w4 wr)) (fun k _ _ => nx - (intOf k).toNat)
      case atStart => exact ⟨0, Nat.zero_le _, rfl, (fun k h => absurd h (by omega)), Below.refl _ _⟩
      case round =>
        obtain ⟨kk, hkk, rfl, hA, hB⟩ := hrel
        have HAk := hide hA.out; have HBk := hide hB.out
        clear hA hB
        by_cases hlt : kk < nx
        · have hki : (kk : Int) < (nx : Int) := by omega
          go_wp2_with fail
          go_loopw [10] (fun j wr => ∃ jj : Nat, jj ≤ kk ∧ j = .int .i64 jj ∧ Hid (∀ j, j < jj → badP xs sp j kk = false) ∧ Hid (Below w4.heap.size w4 wr)) (fun j _ => kk - (intOf j).toNat)
          case atStart => exact ⟨0, Nat.zero_le _, rfl, (fun j h => absurd h (by omega)), HBk.out⟩
          case round =>
            obtain ⟨jj, hjj, rfl, hA, hB⟩ := hrel
            have HAj := hide hA.out; have HBj := hide hB.out
            clear hA hB
            by_cases hlt2 : jj < kk
            · have hjx : jj < xs.length := by have := HNx.out; omega
              have hkx : kk < xs.length := by have := HNx.out; omega
              have hjs : jj < sp.length := by have := HNs.out; omega
              have hks : kk < sp.length := by have := HNs.out; omega
              obtain ⟨b, off, A1, c1, hAe, u1, c0, u2, c2, u3, u4, u5⟩ := at_Txn HXX.out HBj.out hjx
              clear u1 u2 u3 u4 u5
              subst hAe
              obtain ⟨b', off', A2, c2', hAe, u1, d0, u2, d2, u3, u4, u5⟩ := at_Txn HXX.out HBj.out hkx
              clear u1 u2 u3 u4 u5
              obtain ⟨rfl, rfl⟩ : b = b' ∧ off = off' := by simpa using hAe
              obtain ⟨bs, offs, hAs, u1, e0, e1⟩ := at_Span HSS.out HBj.out hjs
              subst hAs
              obtain ⟨bs', offs', hAs, u2, g0, g1⟩ := at_Span HSS.out HBj.out hks
              obtain ⟨rfl, rfl⟩ : bs = bs' ∧ offs = offs' := by simpa using hAs
              have hbd : badP xs sp jj kk = (xs[jj].Session == xs[kk].Session && xs[jj].Done && xs[kk].Done && decide (sp[kk].From ≤ sp[jj].To)) := by
                unfold badP
                rw [sesAt_nat xs jj hjx, sesAt_nat xs kk hkx, doneAt_nat xs jj hjx, doneAt_nat xs kk hkx, spI_nat sp jj hjs, spI_nat sp kk hks]
              have HBd := hide hbd
              have hji : (jj : Int) < (kk : Int) := by omega
              have hji2 : (jj : Int) < (nx : Int) := by omega
              have HNext := hide (show badP xs sp jj kk = false → ∀ j, j < jj + 1 → badP xs sp j kk = false from fun h j hj => by
                rcases Nat.lt_succ_iff_lt_or_eq.1 hj with h1 | h1
                · exact HAj.out j h1
                · rw [h1]; exact h)
              generalize xs[jj].Session = s1 at c0 HBd
              generalize xs[kk].Session = s2 at d0 HBd
              generalize xs[jj].Done = n1 at c2 HBd
              generalize xs[kk].Done = n2 at d2 HBd
              generalize sp[jj].To = t1 at e1 HBd
              generalize sp[kk].From = t2 at g0 HBd
              clear hbd hAe hAs e0 g1 u1 u2
              cases q1 : (s1 == s2) with
              | false =>
                rw [q1] at HBd
                go_wp2_with fail
                go_quiet (fail)
                go_wp2_with fail
                go_roundw
                case rel => exact ⟨jj + 1, by omega, by go_num, HNext.out (by rw [HBd.out]; rfl), below_drewN HBj.out _⟩
                case measure => simp [intOf]; omega
              | true =>
                rw [q1] at HBd
                cases n1 with
                | false =>
                  go_wp2_with fail
                  go_quiet (fail)
                  go_wp2_with fail
                  go_roundw
                  case rel => exact ⟨jj + 1, by omega, by go_num, HNext.out (by rw [HBd.out]; rfl), below_drewN HBj.out _⟩
                  case measure => simp [intOf]; omega
                | true =>
                  cases n2 with
                  | false =>
                    go_wp2_with fail
                    go_quiet (fail)
                    go_wp2_with fail
                    go_roundw
                    case rel => exact ⟨jj + 1, by omega, by go_num, HNext.out (by rw [HBd.out]; rfl), below_drewN HBj.out _⟩
                    case measure => simp [intOf]; omega
                  | true =>
                    cases q2 : decide (t1 ≥ t2) with
                    | false =>
                      have q3 : decide (t2 ≤ t1) = false := q2
                      go_wp2_with fail
                      go_quiet (fail)
                      go_wp2_with fail
                      go_roundw
                      case rel => exact ⟨jj + 1, by omega, by go_num, HNext.out (by rw [HBd.out, q3]; rfl), below_drewN HBj.out _⟩
                      case measure => simp [intOf]; omega
                    | true =>
                      have q3 : decide (t2 ≤ t1) = true := q2
                      have HBw := hide (HB4.out.trans (HBj.out.mono HB4.out.size))
                      go_wp2_with fail
                      go_quiet (fail)
                      go_wp2_with fail
                      go_ret
                      exact ⟨rfl, below_drewN HBw.out _⟩
            · obtain rfl : jj = kk := by omega
              have hji : ¬ (jj : Int) < (jj : Int) := by omega
              have HAn := hide (show ∀ k, k < jj + 1 → ∀ j, j < k → badP xs sp j k = false from fun k hk j hj => by
                rcases Nat.lt_succ_iff_lt_or_eq.1 hk with h1 | h1
                · exact HAk.out k h1 j hj
                · rw [h1] at hj ⊢; exact HAj.out j hj)
              go_wp2_with fail
              go_roundw
              case rel => exact ⟨jj + 1, by omega, by go_num, HAn.out, HBj.out⟩
              case measure => simp [intOf]; omega
        · obtain rfl : kk = nx := by omega
          have hse := HSL.out (fun k hk j hj => HAk.out k (by rw [HNx.out]; exact hk) j hj)
          have HSe := hide hse
          clear hse
          have HBw := hide (HB4.out.trans (HBk.out.mono HB4.out.size))
          have HC := hide (implSessionSerial xs Ax cx wr hxm (HXX.out.old HBk.out))
          rw [← HNx.out] at HC
          go_wp2_with fail
          refine HC.out.mono ?_
          rintro e wz ⟨vz, rfl, _, hb⟩
          rw [HSe.out]
          have HBz := hide (HBw.out.trans (hb.mono HBw.out.size))
          clear hb
          go_wp2_with fail
          go_ret
          exact ⟨rfl, HBz.out⟩
  · clear hA
    go_enter Tryd.func4, Tryd.ntmps4
    go_wp2_with fail
    go_ret
    exact ⟨rfl, Below.refl _ _⟩
end Go.Proofs.YtaaagoppecnmmaaDoor
