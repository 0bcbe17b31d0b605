/- The reference's l13Runs. -/
import Derived.Test.YtaaagoppecnmmaaDoorSnapN
import Derived.Test.YtaaagoppecnmmaaDoorBadS
import Derived.Test.YtaaagoppecnmmaaDoorFollow
import Derived.Test.YtaaagoppecnmmaaDoorSnapC
namespace Go.Proofs.YtaaagoppecnmmaaDoor
open Go.RowKit
set_option linter.unusedVariables false
set_option linter.unusedSimpArgs false

set_option maxHeartbeats 1000000 in
theorem l13Count_pure (xs : List Int) (n : Int) (A : Option Addr) (c : Nat) (w : World) (hm : xs.length ≤ maxLen) (hA : Row tInt w (Old w) A xs) :
    Calls Tryd.prog 81 #[.slice A xs.length c, .int .i64 n] w fun e w' => e = .returned (.int .i64 (xs.count n : Nat)) ∧ w = w' := by
  unfold maxLen at hm
  have HA := hide hA
  clear hA
  go_enter Tryd.func81, Tryd.ntmps81
  go_wp2
  go_loopw [5, 6] (fun m i wr => wr = w ∧ ∃ k q : Nat, k ≤ xs.length ∧ i = .int .i64 k ∧ m = .int .i64 q ∧ Hid (q = (xs.take k).count n) ∧ q ≤ k) (fun _ i _ => xs.length - (intOf i).toNat)
  case atStart => exact ⟨rfl, 0, 0, Nat.zero_le _, rfl, rfl, by simp [Hid], Nat.le_refl _⟩
  case round =>
    obtain ⟨rfl, k, q, hk, rfl, rfl, hq, hqk⟩ := hrel
    by_cases hlt : k < xs.length
    · obtain ⟨b, off, rfl, hbS, c0⟩ := at_Int HA.out (Below.refl _ _) hlt
      have HS := hide (count_take xs n k hlt)
      by_cases he : xs[k] = n
      · rw [if_pos he] at HS
        have hbe : (xs[k] == n) = true := by simpa using he
        have HS2 := hide (show q + 1 = (xs.take (k + 1)).count n by rw [HS.out, hq.out])
        clear he HS hq
        go_wp2
        go_roundw
        case rel => exact ⟨trivial, k + 1, q + 1, by omega, by go_num, by go_num, HS2.out, by omega⟩
        case measure => simp [intOf]; omega
      · rw [if_neg he] at HS
        have hbe : (xs[k] == n) = false := by simpa using he
        have HS2 := hide (show q = (xs.take (k + 1)).count n by rw [HS.out, hq.out]; rfl)
        clear he HS hq
        go_wp2
        go_roundw
        case rel => exact ⟨trivial, k + 1, q, by omega, by go_num, rfl, HS2.out, by omega⟩
        case measure => simp [intOf]; omega
    · obtain rfl : k = xs.length := by omega
      have HQ := hide (show q = xs.count n by have := hq.out; rwa [List.take_length] at this)
      clear hq
      go_wp2
      go_ret
      exact ⟨by rw [← HQ.out]; rfl, rfl⟩
theorem Row.take_ {α : Type} {T : Ty α} {w : World} {S : Nat → Prop} {A : Option Addr} {xs : List α} (h : Row T w S A xs) (k : Nat) : Row T w S A (xs.take k) := fun hp => by
  rw [List.length_take] at hp
  obtain ⟨b, off, rfl, hb, hr⟩ := h (by omega)
  refine ⟨b, off, rfl, hb, fun j hj => ?_⟩
  rw [List.length_take] at hj
  obtain ⟨cs, hrel, hcs⟩ := hr j (by omega)
  exact ⟨cs, by rw [List.getElem_take]; exact hrel, hcs⟩
def keyRun (h : List Txn) (p : List Int) (n : Int) (k : Nat) (s : St) : Nat → Option St
  | 0 => some s
  | j + 1 => (keyRun h p n k s j).bind (keyStep h p n k (j : Int))
theorem keyRun3 (h : List Txn) (p : List Int) (n : Int) (k : Nat) (s : St) : keyRun h p n k s 3 = ((keyStep h p n k 0 s).bind (keyStep h p n k 1)).bind (keyStep h p n k 2) := rfl
theorem specRun_stop (h : List Txn) (p : List Int) (s : St) : ∀ m k, k < m → specRun h p k = some s → specStep h p k s = none → specRun h p m = none
  | 0, k, hk, _, _ => absurd hk (by omega)
  | m + 1, k, hk, h1, h2 => by
    rw [specRun]
    by_cases hkm : k = m
    · subst hkm; rw [h1, Option.bind_some, h2]
    · rw [specRun_stop h p s m k (by omega) h1 h2]; rfl
theorem keyRun_none (h : List Txn) (p : List Int) (n : Int) (k : Nat) (s s' : St) (j : Nat) (hj : j < 3) (h1 : keyRun h p n k s j = some s') (h2 : keyStep h p n k (j : Int) s' = none) : keyRun h p n k s 3 = none := by
  rcases (show j = 0 ∨ j = 1 ∨ j = 2 by omega) with rfl | rfl | rfl
  · rw [keyRun, keyRun, keyRun, h1, Option.bind_some, h2]; rfl
  · rw [keyRun, keyRun, h1, Option.bind_some, h2]; rfl
  · rw [keyRun, h1, Option.bind_some, h2]
theorem hasW_none {ops : List Op} {key : Int} (h : lastW ops key = none) : hasW ops key = -1 := by unfold hasW; rw [h]; rfl
theorem hasW_some {ops : List Op} {key : Int} {o : Op} (h : lastW ops key = some o) : hasW ops key = o.Value := by unfold hasW; rw [h]; rfl
theorem hasW_ge {ops : List Op} (hok : ∀ o ∈ ops, opOk o = true) (key : Int) : decide (0 ≤ hasW ops key) = (lastW ops key).isSome := by
  cases h : lastW ops key with
  | none => rw [hasW_none h]; rfl
  | some o =>
    rw [hasW_some h]
    have := (opOk_parts (hok o (lastW_some h).1)).2.2.1
    simpa using this
theorem confB_hit {h : List Txn} {p : List Int} {key b : Int} {k j : Nat} (hj : j < k) (hb : b < (j : Int)) (hc : isC h p key j = true) : confB h p key b k = true := by
  unfold confB
  rw [List.any_eq_true]
  exact ⟨j, List.mem_range.2 hj, by simp [hb, hc]⟩
theorem confB_miss {h : List Txn} {p : List Int} {key b : Int} {k : Nat} (hn : ∀ j : Nat, b < (j : Int) → j < k → isC h p key j = false) : confB h p key b k = false := by
  unfold confB
  rw [List.any_eq_false]
  intro j hj
  have hjk := List.mem_range.1 hj
  by_cases hb : b < (j : Int)
  · simp [hn j hb hjk]
  · simp [hb]
theorem lastI_succ (p : List Int) (n : Int) (j : Nat) (hj : j < p.length) : lastI p n (j + 1) = if p[j] = n then (j : Int) else lastI p n j := by
  rw [lastI, List.getD_eq_getElem?_getD, List.getElem?_eq_getElem hj]; rfl
set_option maxRecDepth 10000 in
set_option maxHeartbeats 8000000 in
theorem specRuns13 (xs : List Txn) (ns : List Int) (A B : Option Addr) (c d : Nat) (w : World) (hv : histV xs = true) (hmn : ns.length ≤ 1048576) (hd1 : ns.length ≤ d) (hd2 : d ≤ maxLen) (hin : ∀ n ∈ ns, 0 ≤ n ∧ n < xs.length) (hA : Row tTxn w (Old w) A xs) (hB : Row tInt w (Old w) B ns) :
    Calls Tryd.prog 83 #[.slice A xs.length c, .slice B ns.length d] w fun e w' => e = .returned (.bool (l13R xs ns)) ∧ Below w.heap.size w w' := by
  obtain ⟨i0, hi, hz0, hz1, hz2⟩ := info_parts infoInt_
  have hmk : ∀ W : World, (Instr.makeSlice 30 (.int .i64 3) (.int .i64 3)).run Tryd.prog W = .ok (.slice (some ⟨W.heap.size, 0, none⟩) 3 3) (W.alloc (.cells (cells3 St0) 3)) := fun W => by
    have h := run_make_rowN (P := Tryd.prog) 30 3 i0 (.int .i64 0) Tryd.underlying30 hi hz0 .i64 .i64 3 3 (Nat.le_refl _) (by rw [hz2]; omega) (by omega) W
    rw [hz1] at h
    rw [← made3]
    exact h
  have hx6 : xs.length ≤ 6 := (histV_parts hv).1
  have hq : xs.length ≤ 9223372036854775807 := by omega
  have hqn : ns.length ≤ 9223372036854775807 := by omega
  have hqd : d ≤ 9223372036854775807 := by simpa [maxLen] using hd2
  have HV := hide (histV_parts hv).2
  have HA := hide hA; have HB := hide hB; have HIn := hide hin
  have HBk0 := hide (Blk.new w 3 (cells3 St0))
  have HLR := hide (show l13R xs ns = (specRun xs ns ns.length).isSome from rfl)
  clear hA hB hin hv
  go_enter Tryd.func83, Tryd.ntmps83
  go_wp2
  clear hmk
  go_loopw [6, 7, 8, 9, 10, 11, 12, 13, 14] (fun i _ _ _ _ _ _ _ _ wr => ∃ (k : Nat) (s : St), k ≤ ns.length ∧ i = .int .i64 k ∧ Hid (specRun xs ns k = some s) ∧ Hid (Blk wr w.heap.size 3 (cells3 s)) ∧ Hid (Below w.heap.size w wr)) (fun i _ _ _ _ _ _ _ _ _ => ns.length - (intOf i).toNat)
  case atStart => exact ⟨0, St0, Nat.zero_le _, rfl, rfl, HBk0.out, (Below.refl _ w).alloc (Nat.le_refl _) _⟩
  case round =>
    obtain ⟨k, s, hk, rfl, hR, hS, hb⟩ := hrel
    clear HBk0
    have HR := hide hR.out; have HS := hide hS.out; have Hb := hide hb.out
    clear hR hS hb
    by_cases hlt : k < ns.length
    · obtain ⟨b0, off0, hBe, hbS0, c0⟩ := at_Int HB.out Hb.out hlt
      subst hBe
      obtain ⟨hn0, hn1⟩ := HIn.out _ (List.getElem_mem hlt)
      obtain ⟨m, hm⟩ : ∃ m : Nat, ns[k] = (m : Int) := ⟨ns[k].toNat, by omega⟩
      have hml : m < xs.length := by omega
      have HGd := hide (show ns.getD k 0 = (m : Int) by rw [List.getD_eq_getElem?_getD, List.getElem?_eq_getElem hlt]; exact hm)
      rw [hm] at c0
      have htx := HV.out _ (List.getElem_mem hml)
      have HOk := hide (txnOk_parts htx).1
      have ho6 := (txnOk_parts htx).2
      have HOps := hide (show opsOf xs (m : Int) = xs[m].Ops by unfold opsOf; rw [Int.toNat_natCast, List.getElem?_eq_getElem hml]; rfl)
      have HTx := hide htx
      clear hm hn0 hn1 htx
      go_wp2_with fail
      obtain ⟨wo, hwo⟩ : ∃ wo : World, wo = wr := ⟨_, rfl⟩
      rw [← hwo] at HS Hb c0 ⊢
      clear hwo
      go_loopw [8, 9] (fun bg j wr2 => wr2 = wo ∧ ∃ l : Nat, l ≤ k ∧ j = .int .i64 l ∧ bg = .int .i64 (lastI ns m l)) (fun _ j _ => k - (intOf j).toNat)
      case atStart => exact ⟨rfl, 0, Nat.zero_le _, rfl, rfl⟩
      case round =>
        obtain ⟨rfl, l, hl, rfl, rfl⟩ := hrel
        by_cases hlk : l < k
        · obtain ⟨b1, off1, hBe, hbS1, c1⟩ := at_Int HB.out Hb.out (show l < ns.length by omega)
          obtain ⟨rfl, rfl⟩ : b0 = b1 ∧ off0 = off1 := by simpa using hBe
          have HL := hide (lastI_succ ns m l (by omega))
          have hlk' : (l : Int) < (k : Int) := by omega
          clear hBe hbS1
          by_cases he : ns[l] = (m : Int)
          · rw [if_pos he] at HL
            have hbe : (ns[l] == (m : Int)) = true := by simpa using he
            clear he
            go_wp2_with fail
            go_roundw
            case rel => exact ⟨trivial, l + 1, by omega, by go_num, by rw [HL.out]⟩
            case measure => simp [intOf]; omega
          · rw [if_neg he] at HL
            have hbe : (ns[l] == (m : Int)) = false := by simpa using he
            clear he
            go_wp2_with fail
            go_roundw
            case rel => exact ⟨trivial, l + 1, by omega, by go_num, by rw [HL.out]⟩
            case measure => simp [intOf]; omega
        · obtain rfl : l = k := by omega
          have HLt := lastI_lt ns m l
          have hlk' : ¬ (l : Int) < (l : Int) := by omega
          have HSt := hide (show specStep xs ns l s = (if lastI ns m l < 0 then (if readsFit s (firstR xs[m].Ops) then some s else none) else keyRun xs ns m l s 3) by
            unfold specStep
            rw [HGd.out, HOps.out, keyRun3])
          have HRs := hide (show specRun xs ns (l + 1) = specStep xs ns l s by rw [specRun, HR.out]; rfl)
          have HSp := hide (fun (h : specStep xs ns l s = none) => (show l13R xs ns = false by rw [HLR.out, specRun_stop xs ns s ns.length l hlt HR.out h]; rfl))
          clear HR
          obtain ⟨b, off, A2, c2, hA2, hbS, d0, d1, d3, hj1, hj2, hj3⟩ := at_Txn HA.out Hb.out hml
          subst hA2
          have HRow := hide hj3
          clear hj3
          by_cases hneg : lastI ns m l < 0
          · have HSt := hide (HSt.out.trans (if_pos hneg))
            have HFR := hide (specFirstReads xs[m] A2 c2 wr HTx.out HRow.out)
            have HRok := hide (fun o (ho : o ∈ firstR xs[m].Ops) => HOk.out o (firstRs_mem ho))
            have hRl : (firstR xs[m].Ops).length ≤ 6 := Nat.le_trans (firstRs_len _ _) ho6
            generalize lastI ns m l = bgn at hneg HLt
            generalize firstR xs[m].Ops = R at HFR HRok hRl HSt
            have hRq : R.length ≤ 9223372036854775807 := by omega
            go_wp2_with (go_at_call 104; refine HFR.out.mono ?_; rintro e w4 ⟨v4, rfl, hO4, hb4⟩; obtain ⟨A4, c4, rfl, h41, h42, h43⟩ := hO4.sl; have HR4 := hide (h43.mono (S' := Old w4) (fun b h => h.2) (fun _ _ => rfl)); have HS4 := hide (HS.out.below hb4 HS.out.lt); have Hb4 := hide (Hb.out.trans (hb4.mono Hb.out.size)); clear hb4 h43 hO4)
            clear d0 d1 d3 c0
            go_loopw [11] (fun i wr2 => ∃ q : Nat, q ≤ R.length ∧ i = .int .i64 q ∧ Hid (readsFit s (R.take q) = true) ∧ Hid (Below w4.heap.size w4 wr2)) (fun i _ => R.length - (intOf i).toNat)
            case atStart => exact ⟨0, Nat.zero_le _, rfl, rfl, Below.refl _ _⟩
            case round =>
              obtain ⟨q, hqR, rfl, hF, hb⟩ := hrel
              have HF := hide hF.out; have HBr := hide hb.out
              have HS5 := hide (HS4.out.below hb.out HS4.out.lt)
              have HB5 := hide (Hb4.out.trans (hb.out.mono Hb4.out.size))
              clear hF hb
              by_cases hltR : q < R.length
              · obtain ⟨b4, off4, rfl, hbS4, x0, x1, x2⟩ := at_Op HR4.out HBr.out hltR
                have hp := opOk_parts (HRok.out _ (List.getElem_mem hltR))
                have HFt := hide (fit_take s R q hltR HF.out)
                have HFs := hide (fit_stop s R q hltR)
                generalize R[q] = o at x0 x1 x2 hp HFt HFs
                obtain ⟨kd, ky, vl⟩ := o
                dsimp only at x0 x1 x2 hp HFt HFs
                obtain ⟨_, hky, _, _, _⟩ := hp
                have p0 := HS5.out.cell 0; have p1 := HS5.out.cell 1; have p2 := HS5.out.cell 2
                simp only [cells3, List.getElem?_toArray, List.getElem?_cons_zero, List.getElem?_cons_succ] at p0 p1 p2
                have hb5 := HS5.out.lt
                cases hne : (s ky == vl) with
                | true =>
                  have HF2 := hide (HFt.out hne)
                  have hne2 : (s ky != vl) = false := by unfold bne; rw [hne]; rfl
                  clear HFt HFs hne
                  rcases hky with rfl | rfl | rfl
                  · go_wp2_with fail
                    go_quiet (fail)
                    go_wp2_with fail
                    go_roundw
                    case rel => exact ⟨q + 1, by omega, by go_num, HF2.out, below_drewN HBr.out _⟩
                    case measure => simp [intOf]; omega
                  · go_wp2_with fail
                    go_quiet (fail)
                    go_wp2_with fail
                    go_roundw
                    case rel => exact ⟨q + 1, by omega, by go_num, HF2.out, below_drewN HBr.out _⟩
                    case measure => simp [intOf]; omega
                  · go_wp2_with fail
                    go_quiet (fail)
                    go_wp2_with fail
                    go_roundw
                    case rel => exact ⟨q + 1, by omega, by go_num, HF2.out, below_drewN HBr.out _⟩
                    case measure => simp [intOf]; omega
                | false =>
                  have HF := hide (show l13R xs ns = false from HSp.out (by rw [HSt.out, HFs.out hne]; rfl))
                  have hne2 : (s ky != vl) = true := by unfold bne; rw [hne]; rfl
                  clear HFt HFs hne
                  rcases hky with rfl | rfl | rfl
                  · go_wp2_with fail
                    go_quiet (fail)
                    go_wp2_with fail
                    go_ret
                    exact ⟨ret_bool HF.out.symm, below_drewN HB5.out _⟩
                  · go_wp2_with fail
                    go_quiet (fail)
                    go_wp2_with fail
                    go_ret
                    exact ⟨ret_bool HF.out.symm, below_drewN HB5.out _⟩
                  · go_wp2_with fail
                    go_quiet (fail)
                    go_wp2_with fail
                    go_ret
                    exact ⟨ret_bool HF.out.symm, below_drewN HB5.out _⟩
              · obtain rfl : q = R.length := by omega
                have HN := hide (show specRun xs ns (l + 1) = some s by have h := HF.out; rw [List.take_length] at h; rw [HRs.out, HSt.out, h]; rfl)
                clear HF
                go_wp2_with fail
                go_roundw
                case rel => exact ⟨l + 1, s, by omega, by go_num, HN.out, HS5.out, HB5.out⟩
                case measure => simp [intOf]; omega
          · have HSt := hide (HSt.out.trans (if_neg hneg))
            have hge := lastI_ge ns m l
            obtain ⟨bn, hbn⟩ : ∃ bn : Nat, lastI ns m l = (bn : Int) := ⟨(lastI ns m l).toNat, by omega⟩
            have HK0 := hide (fun (key : Nat) (s' : St) (h : lastW xs[m].Ops (key : Int) = none) => (show keyStep xs ns m l (key : Int) s' = some s' by unfold keyStep; rw [HOps.out, h]))
            have HK1 := hide (fun (key : Nat) (s' : St) (o : Op) (h : lastW xs[m].Ops (key : Int) = some o) => (show keyStep xs ns m l (key : Int) s' = if confB xs ns (key : Int) (bn : Int) l then none else some (s'.put (key : Int) o.Value) by unfold keyStep; rw [HOps.out, h, hbn]))
            rw [hbn] at HLt hneg ⊢
            clear hbn hge
            have hbl : bn < l := by omega
            go_wp2_with fail
            clear d0 d1 d3 hj1 hj2
            go_loopw [12, 13, 14] (fun i _ _ wr2 => ∃ (key : Nat) (s' : St), key ≤ 3 ∧ i = .int .i64 key ∧ Hid (keyRun xs ns m l s key = some s') ∧ Hid (Blk wr2 w.heap.size 3 (cells3 s')) ∧ Hid (Below w.heap.size w wr2)) (fun i _ _ _ => 3 - (intOf i).toNat)
            case atStart => exact ⟨0, s, by omega, rfl, rfl, HS.out, Hb.out⟩
            case round =>
              obtain ⟨key, s', hkey, rfl, hK, hS5, hb5⟩ := hrel
              have HK := hide hK.out; have HS5 := hide hS5.out; have HB5 := hide hb5.out
              clear hK hS5 hb5
              by_cases hlt3 : key < 3
              · have hk3 : decide ((key : Int) ≤ 2) = true := decide_eq_true (by omega)
                have hky : (key : Int) = 0 ∨ (key : Int) = 1 ∨ (key : Int) = 2 := by omega
                have HKn := hide (show keyRun xs ns m l s (key + 1) = keyStep xs ns m l (key : Int) s' by rw [keyRun, HK.out]; rfl)
                have HStp := hide (fun (h : keyStep xs ns m l (key : Int) s' = none) => HSp.out (by rw [HSt.out, keyRun_none xs ns m l s s' key hlt3 HK.out h]))
                obtain ⟨b', off', A3, c3, hAe, _, d0, d1, d3, hj1, hj2, hj3⟩ := at_Txn HA.out HB5.out hml
                obtain ⟨rfl, rfl⟩ : b = b' ∧ off = off' := by simpa using hAe
                have HHas := hide (l13Has_any xs[m] (key : Int) A3 c3 wr HTx.out hky hj3)
                clear hAe hj3 hj1 hj2
                cases hlw : lastW xs[m].Ops (key : Int) with
                | none =>
                  rw [hasW_none hlw] at HHas
                  have HK2 := hide (show keyRun xs ns m l s (key + 1) = some s' from HKn.out.trans (HK0.out key s' hlw))
                  clear hlw HKn HStp
                  go_wp2_with (go_at_call 138; refine HHas.out.mono ?_; rintro e w6 ⟨rfl, hb6⟩; have HS6 := hide (HS5.out.below hb6 HS5.out.lt); have HB6 := hide (HB5.out.trans (hb6.mono HB5.out.size)); clear hb6)
                  refine wp_loop_rounds 1 ?_
                  rw [rounds_succ]
                  by_cases hj : bn + 1 < l
                  · have hdj : decide ((bn : Int) + 1 < (l : Int)) = true := decide_eq_true (by omega)
                    have hdn : decide ((0 : Int) ≤ -1) = false := by decide
                    clear hj
                    go_wp2_with fail
                    go_roundw
                    case rel => exact ⟨key + 1, s', by omega, by go_num, HK2.out, HS6.out, HB6.out⟩
                    case measure => simp [intOf]; omega
                  · have hdj : decide ((bn : Int) + 1 < (l : Int)) = false := decide_eq_false (by omega)
                    have hdn : decide ((0 : Int) ≤ -1) = false := by decide
                    clear hj
                    go_wp2_with fail
                    go_roundw
                    case rel => exact ⟨key + 1, s', by omega, by go_num, HK2.out, HS6.out, HB6.out⟩
                    case measure => simp [intOf]; omega
                | some o =>
                  rw [hasW_some hlw] at HHas
                  have hv0 := (opOk_parts (HOk.out o (lastW_some hlw).1)).2.2.1
                  have hdv : decide ((0 : Int) ≤ o.Value) = true := decide_eq_true hv0
                  have HK2 := hide (HKn.out.trans (HK1.out key s' o hlw))
                  have HStp2 := hide (fun (h : confB xs ns (key : Int) (bn : Int) l = true) => HStp.out ((HK1.out key s' o hlw).trans (if_pos h)))
                  clear hlw HKn HStp
                  generalize o.Value = vl at HHas hv0 hdv HK2
                  go_wp2_with (go_at_call 138; refine HHas.out.mono ?_; rintro e w6 ⟨rfl, hb6⟩; have HS6 := hide (HS5.out.below hb6 HS5.out.lt); have HB6 := hide (HB5.out.trans (hb6.mono HB5.out.size)); clear hb6)
                  clear d0 d1 d3
                  obtain ⟨bq, hbq⟩ : ∃ bq : Nat, bq = bn + 1 := ⟨_, rfl⟩
                  have hb1 : ((bn : Int) + 1) = (bq : Int) := by omega
                  rw [hb1]
                  have HBq := hide hbq
                  clear hb1 hbq
                  go_loopw [14] (fun i wr2 => ∃ j : Nat, bq ≤ j ∧ j ≤ l ∧ i = .int .i64 j ∧ Hid (∀ i : Nat, (bn : Int) < (i : Int) → i < j → isC xs ns (key : Int) i = false) ∧ Hid (Below w6.heap.size w6 wr2)) (fun i _ => l - (intOf i).toNat)
                  case atStart => exact ⟨bq, Nat.le_refl _, by have := HBq.out; omega, rfl, fun i h1 h2 => by have := HBq.out; omega, Below.refl _ _⟩
                  case round =>
                    obtain ⟨j, hj1, hjl, rfl, hN, hb⟩ := hrel
                    have HN := hide hN.out; have HB7 := hide (HB6.out.trans (hb.out.mono HB6.out.size)); have Hbw := hide hb.out
                    have HS7 := hide (HS6.out.below hb.out HS6.out.lt)
                    clear hN hb
                    by_cases hjlt : j < l
                    · have hdj : decide ((j : Int) < (l : Int)) = true := decide_eq_true (by omega)
                      have hjn : j < ns.length := by omega
                      obtain ⟨b2, off2, hBe, hbs2, e0⟩ := at_Int HB.out HB7.out hjn
                      obtain ⟨rfl, rfl⟩ : b0 = b2 ∧ off0 = off2 := by simpa using hBe
                      clear hBe
                      obtain ⟨hn0, hn1⟩ := HIn.out _ (List.getElem_mem hjn)
                      obtain ⟨m2, hm2⟩ : ∃ m2 : Nat, ns[j] = (m2 : Int) := ⟨ns[j].toNat, by omega⟩
                      have hml2 : m2 < xs.length := by omega
                      have HIs := hide (show isC xs ns (key : Int) j = ((ns.take j).count (m2 : Int) == 1 && (lastW xs[m2].Ops (key : Int)).isSome) by
                        unfold isC
                        rw [List.getD_eq_getElem?_getD, List.getElem?_eq_getElem hjn, Option.getD_some, hm2]
                        unfold opsOf
                        rw [Int.toNat_natCast, List.getElem?_eq_getElem hml2]; rfl)
                      rw [hm2] at e0
                      have hlenj : (ns.take j).length = j := by rw [List.length_take]; omega
                      have HCnt := hide (fun (W : World) (hW : Below w.heap.size w W) => (l13Count_pure (ns.take j) (m2 : Int) (some ⟨b0, off0, none⟩) d W (by rw [hlenj]; simp only [maxLen]; omega) ((HB.out.old hW).take_ j)))
                      rw [hlenj] at HCnt
                      have hjd : (j : Int) ≤ (d : Int) := by omega
                      obtain ⟨b3, off3, A5, c5, hAe, _, g0, g1, g3, _, _, hR5⟩ := at_Txn HA.out HB7.out hml2
                      obtain ⟨rfl, rfl⟩ : b = b3 ∧ off = off3 := by simpa using hAe
                      have HR5 := hide hR5
                      have HNx := hide (fun (h : isC xs ns (key : Int) j = false) (i : Nat) (h1 : (bn : Int) < (i : Int)) (h2 : i < j + 1) => (show isC xs ns (key : Int) i = false by
                        by_cases hij : i < j
                        · exact HN.out i h1 hij
                        · obtain rfl : i = j := by omega
                          exact h))
                      have HHit := hide (fun (h : isC xs ns (key : Int) j = true) => HStp2.out (confB_hit hjlt (by have := HBq.out; omega) h))
                      clear hm2 hn0 hn1 hAe hR5 hlenj
                      cases hcn : ((ns.take j).count (m2 : Int) == 1) with
                      | false =>
                        have hci : ((((ns.take j).count (m2 : Int) : Nat) : Int) == 1) = false := by rw [beq_eq_false_iff_ne] at hcn ⊢; omega
                        have HF := hide (HNx.out (by rw [HIs.out, hcn]; rfl))
                        have HBel := hide (fun n => below_drewN HB7.out n)
                        clear hcn HIs HNx HHit
                        go_wp2_with fail
                        go_quiet ((go_at_call 81; exact Calls.quiet_of_same ((HCnt.out _ (HBel.out _)).mono (fun _ _ h => ⟨h.1, h.2.symm⟩))))
                        go_wp2_with fail
                        go_roundw
                        case rel => exact ⟨j + 1, by omega, by omega, by go_num, HF.out, below_drewN Hbw.out _⟩
                        case measure => simp [intOf]; omega
                      | true =>
                        have hci : ((((ns.take j).count (m2 : Int) : Nat) : Int) == 1) = true := by rw [beq_iff_eq] at hcn ⊢; omega
                        have HTx2 := hide (HV.out _ (List.getElem_mem hml2))
                        have hz0 : b0 < wr.heap.size := Nat.lt_of_lt_of_le hbs2 HB7.out.size
                        have hz1 : b < wr.heap.size := Nat.lt_of_lt_of_le hbS HB7.out.size
                        have hge2 := hasW_ge (txnOk_parts (HV.out _ (List.getElem_mem hml2))).1 (key : Int)
                        cases hl2 : lastW xs[m2].Ops (key : Int) with
                        | none =>
                          have HF := hide (HNx.out (by rw [HIs.out, hl2]; simp))
                          have HHv := hide (hasW_none hl2)
                          have hgf : decide ((0 : Int) ≤ -1) = false := by decide
                          clear hl2 hcn HIs HNx HHit hge2
                          have HHas2 := hide (l13Has_any xs[m2] (key : Int) A5 c5 wr.drew HTx2.out hky (HR5.out.old ((Below.refl _ wr).drew)))
                          rw [HHv.out] at HHas2
                          go_upto_region 26 with (fail)
                          go_region_held3 (fun W => W.cell? ⟨b0, off0 + j, none⟩ = some (.int .i64 m2) ∧ W.cell? ⟨b, off + m2 * 3, none⟩ = some (.int .i64 xs[m2].Session) ∧ W.cell? ⟨b, off + m2 * 3 + 1, none⟩ = some (.slice A5 xs[m2].Ops.length c5) ∧ W.cell? ⟨b, off + m2 * 3 + 2, none⟩ = some (.bool xs[m2].Done) ∧ Below w.heap.size w W)
                            (first
                              | ((try dsimp only); exact ⟨e0, g0, g1, g3, HB7.out.drew⟩)
                              | ((try dsimp only); exact ⟨(HB8.out.cell (p := ⟨b0, off0 + j, none⟩) hz0).trans e0, (HB8.out.cell (p := ⟨b, off + m2 * 3, none⟩) hz1).trans g0, (HB8.out.cell (p := ⟨b, off + m2 * 3 + 1, none⟩) hz1).trans g1, (HB8.out.cell (p := ⟨b, off + m2 * 3 + 2, none⟩) hz1).trans g3, HB9.out⟩)
                              | go_keep)
                            ((first
                              | (go_at_call 81; refine (HCnt.out _ HB7.out.drew).mono ?_; rintro e w' ⟨rfl, rfl⟩)
                              | (go_at_call 138; refine HHas2.out.mono ?_; rintro e w8 ⟨rfl, hb8⟩; have HB8 := hide ((Below.refl _ wr).drew.trans hb8); have HB9 := hide (HB7.out.drew.trans (hb8.mono HB7.out.size)); clear hb8)))
                          go_wp2_with fail
                          go_roundw
                          case rel => exact ⟨j + 1, by omega, by omega, by go_num, HF.out, Hbw.out.trans (HB8.out.mono Hbw.out.size)⟩
                          case measure => simp [intOf]; omega
                        | some o2 =>
                          have HF := hide (HHit.out (by rw [HIs.out, hcn, hl2]; rfl))
                          have HHv := hide (hasW_some hl2)
                          rw [hasW_some hl2, hl2] at hge2
                          have hge3 : (0 : Int) ≤ o2.Value := of_decide_eq_true hge2
                          clear hl2 hcn HIs HNx HHit
                          have HHas2 := hide (l13Has_any xs[m2] (key : Int) A5 c5 wr.drew HTx2.out hky (HR5.out.old ((Below.refl _ wr).drew)))
                          rw [HHv.out] at HHas2
                          go_upto_region 26 with (fail)
                          go_region_held3 (fun W => W.cell? ⟨b0, off0 + j, none⟩ = some (.int .i64 m2) ∧ W.cell? ⟨b, off + m2 * 3, none⟩ = some (.int .i64 xs[m2].Session) ∧ W.cell? ⟨b, off + m2 * 3 + 1, none⟩ = some (.slice A5 xs[m2].Ops.length c5) ∧ W.cell? ⟨b, off + m2 * 3 + 2, none⟩ = some (.bool xs[m2].Done) ∧ Below w.heap.size w W)
                            (first
                              | ((try dsimp only); exact ⟨e0, g0, g1, g3, HB7.out.drew⟩)
                              | ((try dsimp only); exact ⟨(HB8.out.cell (p := ⟨b0, off0 + j, none⟩) hz0).trans e0, (HB8.out.cell (p := ⟨b, off + m2 * 3, none⟩) hz1).trans g0, (HB8.out.cell (p := ⟨b, off + m2 * 3 + 1, none⟩) hz1).trans g1, (HB8.out.cell (p := ⟨b, off + m2 * 3 + 2, none⟩) hz1).trans g3, HB9.out⟩)
                              | go_keep)
                            ((first
                              | (go_at_call 81; refine (HCnt.out _ HB7.out.drew).mono ?_; rintro e w' ⟨rfl, rfl⟩)
                              | (go_at_call 138; refine HHas2.out.mono ?_; rintro e w8 ⟨rfl, hb8⟩; have HB8 := hide ((Below.refl _ wr).drew.trans hb8); have HB9 := hide (HB7.out.drew.trans (hb8.mono HB7.out.size)); clear hb8)))
                          go_wp2_with fail
                          go_ret
                          exact ⟨ret_bool HF.out.symm, HB9.out⟩
                    · obtain rfl : j = l := by omega
                      have HK3 := hide (HK2.out.trans (if_neg (by rw [confB_miss HN.out]; decide)))
                      have hdj : decide ((j : Int) < (j : Int)) = false := decide_eq_false (by omega)
                      have hcl := HS7.out.cell key
                      rw [show (cells3 s')[key]? = some (.int .i64 (s' key)) by have := cells3_get s' (key : Int) hky; rwa [Int.toNat_natCast] at this] at hcl
                      have hfr := HS7.out.frozen key
                      have hb7 := HS7.out.lt
                      clear HN HK2
                      go_wp2_with fail
                      go_roundw
                      case rel => exact ⟨key + 1, _, by omega, by go_num, HK3.out, by rw [← cells3_put s' (key : Int) vl hky, Int.toNat_natCast]; exact HS7.out.set_ key _, HB7.out.setCell (p := ⟨w.heap.size, key, none⟩) (Nat.le_refl _) _⟩
                      case measure => simp [intOf]; omega
              · obtain rfl : key = 3 := by omega
                have HN := hide (show specRun xs ns (l + 1) = some s' by rw [HRs.out, HSt.out, HK.out])
                clear HK
                go_wp2_with fail
                go_roundw
                case rel => exact ⟨l + 1, s', by omega, by go_num, HN.out, HS5.out, HB5.out⟩
                case measure => simp [intOf]; omega
    · obtain rfl : k = ns.length := by omega
      have HT := hide (show l13R xs ns = true by rw [HLR.out, HR.out]; rfl)
      clear HR
      go_wp2_with fail
      go_ret
      exact ⟨ret_bool HT.out.symm, Hb.out⟩
end Go.Proofs.YtaaagoppecnmmaaDoor
