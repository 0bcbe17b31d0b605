/- The program's LinearRight. -/
import Derived.Test.YtpcghfeiehdapaaDoorLinM
namespace Go.Proofs.YtpcghfeiehdapaaDoor
open Go.RowKit
set_option linter.unusedVariables false
set_option linter.unusedSimpArgs false

set_option maxRecDepth 10000 in
set_option maxHeartbeats 1000000 in
theorem made_any (c : Call) (v : Int) (w : World) :
    Calls Tryd.prog 33 #[.agg #[.int .i64 c.Kind, .int .i64 c.Value, .int .i64 c.When.From, .int .i64 c.When.To], .int .i64 v] w fun e w' => e = .returned (.tuple #[.int .i64 (madeV c v), .bool (madeB c v)]) ∧ Below w.heap.size w w' := by
  obtain ⟨W, hW⟩ : ∃ W, W = w.alloc (.cells #[.int .i64 c.Kind, .int .i64 c.Value, .int .i64 c.When.From, .int .i64 c.When.To] 37) := ⟨_, rfl⟩
  have HB := hide (show Below w.heap.size w W by rw [hW]; exact (Below.refl _ w).alloc (Nat.le_refl _) _)
  have hx : Blk W w.heap.size 37 #[.int .i64 c.Kind, .int .i64 c.Value, .int .i64 c.When.From, .int .i64 c.When.To] := by rw [hW]; exact Blk.new w _ _
  have x0 := hx.cell 0; have x1 := hx.cell 1
  simp only [List.getElem?_toArray, List.getElem?_cons_zero, List.getElem?_cons_succ] at x0 x1
  have HV := hide (show madeV c v = if c.Kind == 2 then c.Value else v from rfl)
  have HBm := hide (show madeB c v = (c.Kind == 2 || c.Value == v) from rfl)
  clear hx
  cases hk : c.Kind == 2 with
  | true =>
    rw [hk] at HV HBm
    go_enter Tryd.func33, Tryd.ntmps33
    go_upto_region 1 with (fail)
    rw [← hW]
    clear hW
    go_wp2_with fail
    go_ret2
    exact ⟨by rw [HV.out, HBm.out]; rfl, HB.out⟩
  | false =>
    rw [hk] at HV HBm
    go_enter Tryd.func33, Tryd.ntmps33
    go_upto_region 1 with (fail)
    rw [← hW]
    clear hW
    go_wp2_with fail
    go_quiet (fail)
    go_wp2_with fail
    go_ret2
    exact ⟨by rw [HV.out, HBm.out]; rfl, below_drewN HB.out _⟩
/-- The value behind a call, and whether it is right there. -/
def nextV (xs : List Call) (pre : List Int) (v n : Int) : Int := if strAlw (whens xs) pre n then madeV (callAt xs n) v else v
def nextB (xs : List Call) (pre : List Int) (v n : Int) : Bool := strAlw (whens xs) pre n && madeB (callAt xs n) v
theorem whens_nat (xs : List Call) (m : Nat) (h : m < xs.length) : spI (whens xs) (m : Int) = xs[m].When := by
  have hl : m < (whens xs).length := by unfold whens; rw [List.length_map]; exact h
  rw [spI_nat _ _ hl]
  simp [whens]
set_option maxRecDepth 10000 in
set_option maxHeartbeats 1000000 in
theorem next_any (xs : List Call) (A : Option Addr) (c : Nat) (w : World) (pre : List Int) (gone n : Nat) (v : Int) (hm : xs.length ≤ 6) (hA : Row tCall w (Old w) A xs) (hn : n < xs.length) (hbt : BitsOf gone pre) (hin : ∀ x ∈ pre, x < (xs.length : Int)) (hT : TabDB w) (h1 : 1 < w.heap.size) :
    Calls Tryd.prog 20 #[.slice A xs.length c, .int .u64 gone, .int .i64 v, .int .i64 n] w fun e w' => e = .returned (.tuple #[.int .i64 (nextV xs pre v n), .bool (nextB xs pre v n)]) ∧ Below w.heap.size w w' := by
  have HA := hide hA
  have HMb := hide (members_any gone w hbt.1 h1 hT)
  have HR := hide (str_memb (whens xs) pre gone n hbt)
  have HMi := hide (memb_in hbt hin)
  have hml := membF_len 6 gone
  have HSn := hide (whens_nat xs n hn)
  have HNv := hide (show nextV xs pre v n = if strAlw (whens xs) pre n then madeV xs[n] v else v by unfold nextV; rw [callAt_nat xs n hn])
  have HNb := hide (show nextB xs pre v n = (strAlw (whens xs) pre n && madeB xs[n] v) by unfold nextB; rw [callAt_nat xs n hn])
  generalize membF 6 gone = L at HMb HR HMi hml
  clear hA hbt hin hT
  go_enter Tryd.func20, Tryd.ntmps20
  go_wp2_with (go_at_call 32; refine HMb.out.mono ?_; rintro e w1 ⟨v1, rfl, hO1, hb1⟩; obtain ⟨A1, c1, rfl, h11, h12, hr1⟩ := hO1.sl; have HR1 := hide (hr1.mono (S' := Old w1) (fun b h => h.2) (fun _ _ => rfl)); have HB1 := hide hb1; clear hO1 hb1 hr1)
  have hq : L.length ≤ 9223372036854775807 := by omega
  go_loopw [11, 15] (fun _ i wr => ∃ k : Nat, k ≤ L.length ∧ i = .int .i64 k ∧ Hid ((L.take k).all (strP (whens xs) n) = true) ∧ Hid (Below w1.heap.size w1 wr)) (fun _ i _ => L.length - (intOf i).toNat)
  case atStart => exact ⟨0, Nat.zero_le _, rfl, rfl, Below.refl _ _⟩
  case round =>
    obtain ⟨k, hk, rfl, hN, hb⟩ := hrel
    have HN := hide hN.out; have HBx := hide hb.out
    have HBw := hide (HB1.out.trans (hb.out.mono HB1.out.size))
    clear hN hb
    by_cases hlt : k < L.length
    · obtain ⟨b0, off0, rfl, hb0, e0⟩ := at_Int HR1.out HBx.out hlt
      obtain ⟨m, hme, hml2⟩ := HMi.out _ (List.getElem_mem hlt)
      have HTk := hide (show (L.take (k + 1)).all (strP (whens xs) n) = strP (whens xs) n (m : Int) by rw [take_all_snoc _ _ _ hlt, HN.out, hme, Bool.true_and])
      have HSt := hide (fun (h : (L.take (k + 1)).all (strP (whens xs) n) = false) => all_stop (strP (whens xs) n) L (k + 1) h)
      have HE := hide (show strP (whens xs) n (m : Int) = !decide (xs[n].When.To < xs[m].When.From) by unfold strP; rw [HSn.out, whens_nat xs m hml2])
      rw [hme] at e0
      obtain ⟨bs1, offs1, hAe, _, g0, g1, g2, g3⟩ := at_Call HA.out HBw.out hn
      subst hAe
      obtain ⟨bs', offs', hAe, _, f0, f1, f2, f3⟩ := at_Call HA.out HBw.out hml2
      obtain ⟨rfl, rfl⟩ : bs1 = bs' ∧ offs1 = offs' := by simpa using hAe
      clear hAe hme
      cases hd : decide (xs[n].When.To < xs[m].When.From) with
      | true =>
        have hdg : decide (xs[m].When.From > xs[n].When.To) = true := hd
        have HF := hide (show strAlw (whens xs) pre n = false by rw [HR.out]; exact HSt.out (by rw [HTk.out, HE.out, hd]; rfl))
        clear hd
        go_wp2_with fail
        go_quiet (fail)
        go_wp2_with fail
        go_ret2
        exact ⟨by rw [HNv.out, HNb.out, HF.out]; rfl, below_drewN HBw.out _⟩
      | false =>
        have hdg : decide (xs[m].When.From > xs[n].When.To) = false := hd
        have HF := hide (show (L.take (k + 1)).all (strP (whens xs) n) = true by rw [HTk.out, HE.out, hd]; rfl)
        clear hd
        go_wp2_with fail
        go_quiet (fail)
        go_wp2_with fail
        go_roundw
        case rel => exact ⟨k + 1, by omega, by go_num, HF.out, below_drewN HBx.out _⟩
        case measure => simp [intOf]; omega
    · obtain rfl : k = L.length := by omega
      have HF := hide (show strAlw (whens xs) pre n = true by rw [HR.out]; have := HN.out; rwa [List.take_length] at this)
      obtain ⟨bs1, offs1, hAe, _, g0, g1, g2, g3⟩ := at_Call HA.out HBw.out hn
      subst hAe
      have HMd := hide (made_any xs[n] v wr)
      go_wp2_with (go_at_call 33; refine HMd.out.mono ?_; rintro e w2 ⟨rfl, hb2⟩; have HB2 := hide (HBw.out.trans (hb2.mono HBw.out.size)); clear hb2)
      go_ret2
      exact ⟨by rw [HNv.out, HNb.out, HF.out]; rfl, HB2.out⟩
theorem callsV_len {xs : List Call} (hv : callsV xs = true) : xs.length ≤ 6 := by
  unfold callsV at hv
  rw [Bool.and_eq_true, decide_eq_true_iff] at hv
  exact hv.1
set_option maxRecDepth 10000 in
set_option maxHeartbeats 2000000 in
theorem implLinearRight (xs : List Call) (o : List Int) (A B : Option Addr) (c d : Nat) (w : World) (hm : xs.length ≤ maxLen) (hmo : o.length ≤ 1048576) (hA : Row tCall w (Old w) A xs) (hB : Row tInt w (Old w) B o) (hT : TabDB w) (h1 : 1 < w.heap.size) :
    Calls Tryd.prog 7 #[.slice A xs.length c, .slice B o.length d] w fun e w' => e = .returned (.bool (linB xs o)) ∧ Below w.heap.size w w' := by
  rw [← lin_same]
  have HC := hide (implCallsValid xs A c w hm hA)
  have HR := hide (show linI xs o = (callsV xs && (decide (o.length = xs.length) && ((List.range o.length).all (stepL xs o) && (linS xs o o.length).isSome))) from rfl)
  have HA := hide hA; have HB := hide hB; have HT := hide hT
  have hq : o.length ≤ 9223372036854775807 := by omega
  have hqx : xs.length ≤ 9223372036854775807 := by simpa [maxLen] using hm
  clear hA hB hT hm
  cases hv : callsV xs with
  | false =>
    rw [hv] at HC HR
    clear hv
    go_enter Tryd.func7, Tryd.ntmps7
    go_wp2_with (go_at_call 18; refine HC.out.mono ?_; rintro e w1 ⟨rfl, hb1⟩; have HB1 := hide hb1; clear hb1)
    go_ret
    exact ⟨ret_bool HR.out.symm, HB1.out⟩
  | true =>
    have h6 := callsV_len hv
    rw [hv] at HC HR
    clear hv
    by_cases hl : o.length = xs.length
    · have HR := hide (show linI xs o = ((List.range o.length).all (stepL xs o) && (linS xs o o.length).isSome) by rw [HR.out, decide_eq_true hl]; rfl)
      have hli : ((o.length : Int) != (xs.length : Int)) = false := by rw [bne_eq_false_iff_eq]; omega
      have HL := hide hl
      have ho6 : o.length ≤ 6 := by omega
      have hxl : (xs.length : Int) = (o.length : Int) := by omega
      have HXl := hide hxl
      clear hl hxl
      go_enter Tryd.func7, Tryd.ntmps7
      go_wp2_with (go_at_call 18; refine HC.out.mono ?_; rintro e w1 ⟨rfl, hb1⟩; have HB1 := hide hb1; clear hb1)
      go_loopw [5, 6, 8, 9, 10, 23] (fun v g _ _ _ i wr => ∃ (k gone : Nat) (vv : Int), k ≤ o.length ∧ i = .int .i64 k ∧ g = .int .u64 (gone : Int) ∧ v = .int .i64 vv ∧ Hid (BitsOf gone (o.take k)) ∧ Hid (linS xs o k = some vv) ∧ Hid ((List.range k).all (stepL xs o) = true) ∧ Hid (∀ x ∈ o.take k, x < (xs.length : Int)) ∧ Hid (Below w.heap.size w wr)) (fun _ _ _ _ _ i _ => o.length - (intOf i).toNat)
      case atStart => exact ⟨0, 0, 0, Nat.zero_le _, rfl, rfl, rfl, BitsOf.zero, rfl, rfl, (fun x hx => by simp at hx), HB1.out⟩
      case round =>
        obtain ⟨k, gone, vv, hk, rfl, rfl, rfl, hbt, hlv, hst, hin, hb⟩ := hrel
        have HBt := hide hbt.out; have HLv := hide hlv.out; have HSt := hide hst.out; have HIn := hide hin.out; have HBw := hide hb.out
        clear hbt hlv hst hin hb
        by_cases hlt : k < o.length
        · obtain ⟨b0, off0, rfl, hb0, e0⟩ := at_Int HB.out HBw.out hlt
          have HSk := hide (show stepL xs o k = (inR o[k] 0 ((xs.length : Int) - 1) && (!(o.take k).contains o[k] && strAlw (whens xs) (o.take k) o[k])) by unfold stepL; rw [getD_get hlt])
          have HBad := hide (fun (h : stepL xs o k = false) => (show linI xs o = false by rw [HR.out, range_stop hlt h]; rfl))
          have HTk := hide (show o.take (k + 1) = o.take k ++ [o[k]] from List.take_succ_eq_append_getElem hlt)
          have HOk := hide (fun (m : Nat) (hm : o[k] = (m : Int)) (hx : m < xs.length) => linS_succ HLv.out hlt hm hx)
          generalize hok : o[k] = x at e0 HSk HTk HOk
          have hsub : IntKind.i64.wrap ((xs.length : Int) - 1) = (xs.length : Int) - 1 := by rw [IntKind.wrap_i64]; omega
          cases hr : inR x 0 ((xs.length : Int) - 1) with
          | false =>
            have HF := hide (HBad.out (by rw [HSk.out, hr]; rfl))
            clear hok
            go_wp2_with (go_at_call 19; refine (within _ _ _ _).mono ?_; rintro e w' ⟨rfl, rfl⟩; rw [hr])
            go_ret
            exact ⟨ret_bool HF.out.symm, HBw.out⟩
          | true =>
            have hrr := inR_iff.1 hr
            obtain ⟨n, rfl⟩ : ∃ n : Nat, x = (n : Int) := ⟨x.toNat, by omega⟩
            have hn : n < xs.length := by omega
            have hn6 : n < 6 := by omega
            have hsh := (shr_eq gone n HBt.out.1).trans (HBt.out.2 n)
            have hor := or_shl gone n HBt.out.1 hn6
            cases hc : (o.take k).contains (n : Int) with
            | true =>
              rw [hc] at hsh
              have HF := hide (HBad.out (by rw [HSk.out, hr, hc]; rfl))
              clear hok hc hor hrr
              go_wp2_with (go_at_call 19; refine (within _ _ _ _).mono ?_; rintro e w' ⟨rfl, rfl⟩; rw [hr])
              go_ret
              exact ⟨ret_bool HF.out.symm, HBw.out⟩
            | false =>
              rw [hc] at hsh
              have HNx := hide (next_any xs A c wr (o.take k) gone n vv h6 (HA.out.old HBw.out) hn HBt.out HIn.out (HT.out.below h1 HBw.out) (Nat.lt_of_lt_of_le h1 HBw.out.size))
              have HNb := hide (show nextB xs (o.take k) vv n = (strAlw (whens xs) (o.take k) n && madeB xs[n] vv) by unfold nextB; rw [callAt_nat xs n hn])
              have HOk2 := hide (HOk.out n rfl hn)
              have HTb := hide (HBt.out.snoc n hn6)
              have HIn2 := hide (show ∀ x ∈ o.take (k + 1), x < (xs.length : Int) from fun x hx => by
                rw [HTk.out, List.mem_append, List.mem_singleton] at hx
                rcases hx with hx | hx
                · exact HIn.out x hx
                · omega)
              cases hs : strAlw (whens xs) (o.take k) n with
              | false =>
                have HF := hide (HBad.out (by rw [HSk.out, hs, Bool.and_false, Bool.and_false]))
                rw [hs, Bool.false_and] at HNb
                rw [HNb.out] at HNx
                clear hok hc hor hs hrr
                generalize nextV xs (o.take k) vv n = nv at HNx
                go_wp2_with (first | (go_at_call 19; refine (within _ _ _ _).mono ?_; rintro e w' ⟨rfl, rfl⟩; rw [hr]) | (go_at_call 20; refine HNx.out.mono ?_; rintro e w2 ⟨rfl, hb2⟩; have HB2 := hide (HBw.out.trans (hb2.mono HBw.out.size)); clear hb2))
                go_ret
                exact ⟨ret_bool HF.out.symm, HB2.out⟩
              | true =>
                have HSk2 := hide (show stepL xs o k = true by rw [HSk.out, hr, hc, hs]; rfl)
                rw [hs, Bool.true_and] at HNb
                cases hmb : madeB xs[n] vv with
                | false =>
                  rw [hmb] at HNb
                  rw [HNb.out] at HNx
                  have HF := hide (show linI xs o = false by rw [HR.out, linS_stop (k := k + 1) (by rw [HOk2.out, hmb]; rfl) (by omega), Bool.and_false])
                  clear hok hc hor hs hmb hrr
                  generalize nextV xs (o.take k) vv n = nv at HNx
                  go_wp2_with (first | (go_at_call 19; refine (within _ _ _ _).mono ?_; rintro e w' ⟨rfl, rfl⟩; rw [hr]) | (go_at_call 20; refine HNx.out.mono ?_; rintro e w2 ⟨rfl, hb2⟩; have HB2 := hide (HBw.out.trans (hb2.mono HBw.out.size)); clear hb2))
                  go_ret
                  exact ⟨ret_bool HF.out.symm, HB2.out⟩
                | true =>
                  rw [hmb] at HNb
                  rw [HNb.out] at HNx
                  have HNv := hide (show nextV xs (o.take k) vv n = xs[n].Value by unfold nextV; rw [hs, if_pos rfl, callAt_nat xs n hn, made_val hmb])
                  rw [HNv.out] at HNx
                  have HL2 := hide (show linS xs o (k + 1) = some xs[n].Value by rw [HOk2.out, hmb]; rfl)
                  have HSt2 := hide (range_succ_all HSt.out HSk2.out)
                  have hrd : (inR (n : Int) 0 ((xs.length : Int) - 1)) = true := hr
                  clear hok hc hs hmb hrr
                  go_wp2_with (first | (go_at_call 19; refine (within _ _ _ _).mono ?_; rintro e w' ⟨rfl, rfl⟩; rw [hr]) | (go_at_call 20; refine HNx.out.mono ?_; rintro e w2 ⟨rfl, hb2⟩; have HB2 := hide (HBw.out.trans (hb2.mono HBw.out.size)); clear hb2))
                  go_roundw
                  case rel => exact ⟨k + 1, gone ||| 2 ^ n, xs[n].Value, by omega, by go_num, rfl, rfl, by rw [HTk.out]; exact HTb.out, HL2.out, HSt2.out, HIn2.out, HB2.out⟩
                  case measure => simp [intOf]; omega
        · obtain rfl : k = o.length := by omega
          have HF := hide (show linI xs o = true by rw [HR.out, HSt.out, HLv.out]; rfl)
          go_wp2_with fail
          go_ret
          exact ⟨ret_bool HF.out.symm, HBw.out⟩
    · have HR := hide (show linI xs o = false by rw [HR.out, decide_eq_false hl]; rfl)
      have hli : ((o.length : Int) != (xs.length : Int)) = true := by rw [bne_iff_ne]; omega
      clear hl
      go_enter Tryd.func7, Tryd.ntmps7
      go_wp2_with (go_at_call 18; refine HC.out.mono ?_; rintro e w1 ⟨rfl, hb1⟩; have HB1 := hide hb1; clear hb1)
      go_ret
      exact ⟨ret_bool HR.out.symm, HB1.out⟩
end Go.Proofs.YtpcghfeiehdapaaDoor
