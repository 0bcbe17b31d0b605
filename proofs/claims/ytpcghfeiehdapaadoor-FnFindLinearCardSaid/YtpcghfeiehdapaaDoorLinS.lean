/- The reference's LinearRight. -/
import Derived.Test.YtpcghfeiehdapaaDoorLinM
import Derived.Test.YtpcghfeiehdapaaDoorPut
import Derived.Test.YtpcghfeiehdapaaDoorToA
namespace Go.Proofs.YtpcghfeiehdapaaDoor
open Go.RowKit
set_option linter.unusedVariables false
set_option linter.unusedSimpArgs false

set_option maxRecDepth 10000 in
set_option maxHeartbeats 1000000 in
theorem specNums (n : Nat) (w : World) (hn : n ≤ 1048576) :
    Calls Tryd.prog 17 #[.int .i64 n] w fun e w' => ∃ v, e = .returned v ∧ Own tInt 3 w' (New w w') (nums n) v ∧ Below w.heap.size w w' := by
  obtain ⟨i0, hi, hz0, hz1, hz2⟩ := info_parts infoInt_
  go_enter Tryd.func17, Tryd.ntmps17
  go_wp2_with fail
  go_loopw [3, 4] (fun v i wr => ∃ k : Nat, k ≤ n ∧ i = .int .i64 k ∧ Hid (Own tInt 3 wr (fun b => w.heap.size ≤ b ∧ Old wr b) (nums k) v) ∧ Hid (Below w.heap.size w wr)) (fun _ i _ => n - (intOf i).toNat)
  case atStart => exact ⟨0, Nat.zero_le _, rfl, Own.empty w (fun b => w.heap.size ≤ b) (Nat.le_refl _), (Below.refl _ w).alloc (Nat.le_refl _) _⟩
  case round =>
    obtain ⟨k, hk, rfl, hO, hb⟩ := hrel
    have HO := hide hO.out; have HB := hide hb.out
    clear hO hb
    by_cases hlt : k < n
    · have HS := hide (nums_succ k)
      have hkl := nums_len k
      have hd : decide ((k : Int) < (n : Int)) = true := decide_eq_true (by omega)
      have hl6 : (nums k).length ≤ 1048576 := by omega
      clear hkl
      generalize nums k = M at HO HS hl6
      go_wp2_with (at_builtin; refine wpList_put tInt rfl (.tmp 11) (.tmp 13) 24 rfl 3 i0 _ 8 Tryd.underlying24 hi hz0 hz1 hz2 rfl (by decide) (fun b => w.heap.size ≤ b) (fun _ => False) M (k : Int) [.int .i64 k] _ rfl HO.out 1 rfl rfl (fun _ h => h.elim) (fun b hb => Nat.le_trans HB.out.size hb) (by simp only [maxLen]; omega) (by omega) ?_; intro v3 w3 hO_ hK_; have HO3 := hide hO_; have HK3 := hide hK_; clear hO_ hK_)
      go_roundw
      case rel => exact ⟨k + 1, by omega, by go_num, by rw [HS.out]; exact HO3.out, below_only HB.out HK3.out HB.out.size (fun _ h => h)⟩
      case measure => simp [intOf]; omega
    · obtain rfl : k = n := by omega
      have hd : decide ((k : Int) < (k : Int)) = false := by simp
      go_wp2_with fail
      go_ret
      exact ⟨_, rfl, HO.out, HB.out⟩
theorem whens_take (xs : List Call) (k : Nat) (hk : k < xs.length) : (whens xs).take (k + 1) = (whens xs).take k ++ [xs[k].When] := by
  have hl : k < (whens xs).length := by unfold whens; rw [List.length_map]; exact hk
  rw [List.take_succ_eq_append_getElem hl]
  simp [whens]
theorem whens_len (xs : List Call) : (whens xs).length = xs.length := List.length_map _
set_option maxRecDepth 10000 in
set_option maxHeartbeats 4000000 in
theorem specLinearRight (xs : List Call) (o : List Int) (A B : Option Addr) (c d : Nat) (w : World) (hm : xs.length ≤ 1048576) (hmo : o.length ≤ 1048576) (hA : Row tCall w (Old w) A xs) (hB : Row tInt w (Old w) B o) :
    Calls Tryd.prog 8 #[.slice A xs.length c, .slice B o.length d] w fun e w' => e = .returned (.bool (linB xs o)) ∧ Below w.heap.size w w' := by
  obtain ⟨i0, hi, hz0, hz1, hz2⟩ := info_parts infoSpan_
  have HC := hide (specCallsValid xs A c w (by omega) hA)
  have HR := hide (show linB xs o = (callsV xs && (sameB o (nums xs.length) && ((linS xs o o.length).isSome && timeB (whens xs) o o.length))) from rfl)
  have HA := hide hA; have HB := hide hB
  have hq : o.length ≤ 9223372036854775807 := by omega
  have hqx : xs.length ≤ 9223372036854775807 := by omega
  have HNm := hide (fun W => specNums xs.length W hm)
  have HNl := hide (nums_len xs.length)
  clear hA hB
  cases hv : callsV xs with
  | false =>
    rw [hv] at HC HR
    clear hv
    go_enter Tryd.func8, Tryd.ntmps8
    go_wp2_with (go_at_call 21; refine HC.out.mono ?_; rintro e w1 ⟨rfl, hb1⟩; have HB1 := hide hb1; clear hb1)
    go_ret
    exact ⟨ret_bool HR.out.symm, HB1.out⟩
  | true =>
    have h6 : xs.length ≤ 6 := by
      unfold callsV at hv
      rw [Bool.and_eq_true, decide_eq_true_iff] at hv
      exact hv.1
    have HOk := hide (fun x (hx : x ∈ xs) => (show callOk x = true by
      unfold callsV at hv
      rw [Bool.and_eq_true, List.all_eq_true] at hv
      exact hv.2 x hx))
    have HSm := hide (fun (W : World) (A1 : Option Addr) (c1 : Nat) (hb : Below w.heap.size w W) (h1 : Row tInt W (Old W) A1 (nums xs.length)) => specSame o (nums xs.length) B A1 d c1 W (by simp only [maxLen]; omega) (by rw [HNl.out]; simp only [maxLen]; omega) (HB.out.old hb) h1)
    rw [hv] at HC HR
    clear hv
    have HSi := hide (show sameB o (nums xs.length) = true → ∀ x ∈ o, 0 ≤ x ∧ x < xs.length from fun h x hx => mem_nums.1 (((same_iff (nums_nodup xs.length)).1 h).mem_iff.1 hx))
    generalize nums xs.length = NM at HNm HNl HSm HR HSi
    rw [← HNl.out] at hqx
    cases hs : sameB o NM with
    | false =>
      rw [hs] at HSm HR
      clear hs
      go_enter Tryd.func8, Tryd.ntmps8
      go_wp2_with (first | (go_at_call 21; refine HC.out.mono ?_; rintro e w1 ⟨rfl, hb1⟩; have HB1 := hide hb1; clear hb1) | (go_at_call 17; refine (HNm.out _).mono ?_; rintro e w2 ⟨v2, rfl, hO2, hb2⟩; obtain ⟨A2, c2, rfl, _, _, hr2⟩ := hO2.sl; have HR2 := hide (hr2.mono (S' := Old w2) (fun b h => h.2) (fun _ _ => rfl)); have HB2 := hide (HB1.out.trans (hb2.mono HB1.out.size)); clear hO2 hb2 hr2) | (go_at_call 22; refine (HSm.out _ _ _ HB2.out HR2.out).mono ?_; rintro e w3 ⟨rfl, hb3⟩; have HB3 := hide (HB2.out.trans (hb3.mono HB2.out.size)); clear hb3))
      go_ret
      exact ⟨ret_bool HR.out.symm, HB3.out⟩
    | true =>
      have HIn := hide (HSi.out hs)
      rw [hs] at HSm HR
      clear hs HSi
      go_enter Tryd.func8, Tryd.ntmps8
      go_wp2_with (first | (go_at_call 21; refine HC.out.mono ?_; rintro e w1 ⟨rfl, hb1⟩; have HB1 := hide hb1; clear hb1) | (go_at_call 17; refine (HNm.out _).mono ?_; rintro e w2 ⟨v2, rfl, hO2, hb2⟩; obtain ⟨A2, c2, rfl, _, _, hr2⟩ := hO2.sl; have HR2 := hide (hr2.mono (S' := Old w2) (fun b h => h.2) (fun _ _ => rfl)); have HB2 := hide (HB1.out.trans (hb2.mono HB1.out.size)); clear hO2 hb2 hr2) | (go_at_call 22; refine (HSm.out _ _ _ HB2.out HR2.out).mono ?_; rintro e w3 ⟨rfl, hb3⟩; have HB3 := hide (HB2.out.trans (hb3.mono HB2.out.size)); clear hb3))
      have HO0 := hide (Own.empty (T := tSpan) (e := 35) w3 (fun b => w3.heap.size ≤ b) (Nat.le_refl _))
      have hqx2 : xs.length ≤ 9223372036854775807 := by omega
      go_loopw [6, 7] (fun v i wr => ∃ k : Nat, k ≤ xs.length ∧ i = .int .i64 k ∧ Hid (Own tSpan 35 wr (fun b => w3.heap.size ≤ b ∧ Old wr b) ((whens xs).take k) v) ∧ Hid (Below w3.heap.size w3 wr)) (fun _ i _ => xs.length - (intOf i).toNat)
      case atStart => exact ⟨0, Nat.zero_le _, rfl, HO0.out, (Below.refl _ w3).alloc (Nat.le_refl _) _⟩
      case round =>
        obtain ⟨k, hk, rfl, hO, hb⟩ := hrel
        have HO := hide hO.out; have HBk := hide hb.out
        have HBw := hide (HB3.out.trans (hb.out.mono HB3.out.size))
        clear hO hb HO0
        by_cases hlt : k < xs.length
        · obtain ⟨b, off, hAe, hbS, g0, g1, g2, g3⟩ := at_Call HA.out HBw.out hlt
          subst hAe
          have HS := hide (whens_take xs k hlt)
          have hl6 : ((whens xs).take k).length ≤ 6 := by rw [List.length_take]; omega
          generalize (whens xs).take k = M at HO HS hl6
          go_wp2_with (at_builtin; (refine wpList_put tSpan rfl (.tmp 28) (.tmp 34) 48 rfl 35 i0 _ 16 Tryd.underlying48 hi hz0 hz1 hz2 rfl (by decide) (fun b => w3.heap.size ≤ b) (fun _ => False) M xs[k].When [.int .i64 xs[k].When.From, .int .i64 xs[k].When.To] _ rfl HO.out 1 rfl rfl (fun _ h => h.elim) (fun b hb => Nat.le_trans HBk.out.size hb) (by simp only [maxLen]; omega) (by omega) ?_; intro v4 w4 hO_ hK_; have HO4 := hide hO_; have HK4 := hide hK_; clear hO_ hK_))
          go_roundw
          case rel => exact ⟨k + 1, by omega, by go_num, by rw [HS.out]; exact HO4.out, below_only HBk.out HK4.out HBk.out.size (fun _ h => h)⟩
          case measure => simp [intOf]; omega
        · obtain rfl : k = xs.length := by omega
          obtain ⟨wx, rfl⟩ : ∃ wx : World, wx = wr := ⟨wr, rfl⟩
          have HO5 := hide (show Own tSpan 35 wx (fun b => w3.heap.size ≤ b ∧ Old wx b) (whens xs) _ from by
            have h := HO.out
            rw [show (whens xs).take xs.length = whens xs by rw [← whens_len xs, List.take_length]] at h
            exact h)
          obtain ⟨A5, c5, hv5, _, _, hr5⟩ := HO5.out.sl
          subst hv5
          have HR5 := hide (hr5.mono (S' := Old wx) (fun b h => h.2) (fun _ _ => rfl))
          have HWl := hide (whens_len xs)
          clear hr5 HO5 HO
          go_wp2_with fail
          go_loopw [5, 8, 9] (fun v i _ wr => ∃ (k : Nat) (vv : Int), k ≤ o.length ∧ i = .int .i64 k ∧ v = .int .i64 vv ∧ Hid (linS xs o k = some vv) ∧ Hid (Below wx.heap.size wx wr)) (fun _ i _ _ => o.length - (intOf i).toNat)
          case atStart => exact ⟨0, 0, Nat.zero_le _, rfl, rfl, rfl, Below.refl _ _⟩
          case round =>
            obtain ⟨k, vv, hk, rfl, rfl, hlv, hb⟩ := hrel
            have HLv := hide hlv.out; have HBx := hide hb.out
            have HBy := hide (HBw.out.trans (hb.out.mono HBw.out.size))
            clear hlv hb
            by_cases hlt2 : k < o.length
            · obtain ⟨b0, off0, hBe, hb0S, e0⟩ := at_Int HB.out HBy.out hlt2
              subst hBe
              have hinr := HIn.out _ (List.getElem_mem hlt2)
              obtain ⟨m, hme⟩ : ∃ m : Nat, o[k] = (m : Int) := ⟨o[k].toNat, by omega⟩
              have hmx : m < xs.length := by omega
              have HLs := hide (linS_succ HLv.out hlt2 hme hmx)
              have HMs := hide (made_spec (v := vv) (HOk.out _ (List.getElem_mem hmx)))
              rw [hme] at e0
              obtain ⟨b, off, hAe, hbS, g0, g1, g2, g3⟩ := at_Call HA.out HBy.out hmx
              subst hAe
              have HStop := hide (fun (h : linS xs o (k + 1) = none) => (show linB xs o = false by rw [HR.out, linS_stop h (by omega)]; rfl))
              generalize madeB xs[m] vv = Mb at HLs HMs
              generalize xs[m] = cl at g0 g1 g2 g3 HLs HMs
              obtain ⟨Kd, Vl, ⟨Fr, To⟩⟩ := cl
              dsimp only at g0 g1 g2 g3 HLs HMs
              clear hme hinr
              go_upto_region 13 with (fail)
              generalize hW : World.alloc _ _ = W
              have hx : Blk W wr.heap.size 37 #[.int .i64 Kd, .int .i64 Vl, .int .i64 Fr, .int .i64 To] := by rw [← hW]; exact Blk.new wr _ _
              have HW := hide (show Below wx.heap.size wx W by rw [← hW]; exact HBx.out.alloc HBx.out.size _)
              have x0 := hx.cell 0; have x1 := hx.cell 1
              simp only [List.getElem?_toArray, List.getElem?_cons_zero, List.getElem?_cons_succ] at x0 x1
              clear hW hx g0 g1 g2 g3 e0
              cases hk1 : (Kd == 1) with
              | true =>
                cases hvv : (Vl != vv) with
                | true =>
                  have HF := hide (HStop.out (by rw [HLs.out, HMs.out, hk1, hvv]; rfl))
                  go_wp2_with fail
                  go_ret
                  exact ⟨ret_bool HF.out.symm, HBw.out.trans (HW.out.mono HBw.out.size)⟩
                | false =>
                  have HF := hide (show linS xs o (k + 1) = some Vl by rw [HLs.out, HMs.out, hk1, hvv]; rfl)
                  go_wp2_with fail
                  go_roundw
                  case rel => exact ⟨k + 1, Vl, by omega, by go_num, rfl, HF.out, HW.out⟩
                  case measure => simp [intOf]; omega
              | false =>
                have HF := hide (show linS xs o (k + 1) = some Vl by rw [HLs.out, HMs.out, hk1]; rfl)
                go_wp2_with fail
                go_roundw
                case rel => exact ⟨k + 1, Vl, by omega, by go_num, rfl, HF.out, HW.out⟩
                case measure => simp [intOf]; omega
            · obtain rfl : k = o.length := by omega
              have HF := hide (show linB xs o = timeB (whens xs) o o.length by rw [HR.out, HLv.out]; rfl)
              have HFw := hide (specForward15 (whens xs) o A5 B c5 d wr (by rw [HWl.out]; simp only [maxLen]; omega) hmo (fun n hn => by rw [HWl.out]; exact HIn.out n hn) (HR5.out.old HBx.out) (HB.out.old HBy.out))
              rw [← HF.out] at HFw
              go_wp2_with (go_at_call 23; refine HFw.out.mono ?_; rintro e w9 ⟨rfl, hb9⟩; have HB9 := hide (HBy.out.trans (hb9.mono HBy.out.size)); clear hb9)
              go_ret
              exact ⟨rfl, HB9.out⟩
end Go.Proofs.YtpcghfeiehdapaaDoor
