/- The reference's Installed, for keys of any history. -/
import Derived.Test.YtmlbfhknapkhgaaInstV
import Derived.Test.YtmlbfhknapkhgaaLastS
import Derived.Test.YtmlbfhknapkhgaaInsI
namespace Go.Proofs.Ytmlbfhknapkhgaa
open Go.RowKit
set_option linter.unusedVariables false
set_option linter.unusedSimpArgs false

def insR (h : List Txn) (key : Int) : List Int := if histV h then instL h key else []
set_option maxRecDepth 10000 in
set_option maxHeartbeats 4000000 in
theorem specInstalled (xs : List Txn) (key : Int) (A : Option Addr) (c : Nat) (w : World) (hm : xs.length ≤ maxLen) (ht : opsN xs ≤ 1048576) (hky : key = 0 ∨ key = 1 ∨ key = 2) (hA : Row tTxn w (Old w) A xs) :
    Calls Try.prog 137 #[.slice A xs.length c, .int .i64 key] w fun e w' => ∃ v, e = .returned v ∧ Own tInt 3 w' (New w w') (insR xs key) v ∧ Below w.heap.size w w' := by
  obtain ⟨i0, hi_, hz0, hz1, hz2⟩ := info_parts infoInt_
  have HCv := hide (fun (W : World) (hb : Below w.heap.size w W) => specHistoryValid xs A c W hm (hA.old hb) ht)
  have HR := hide (show insR xs key = if histV xs then instL xs key else [] from rfl)
  have hq : xs.length ≤ 9223372036854775807 := by simpa [maxLen] using hm
  have hkr : inR key 0 2 = true := inR_iff.2 (by omega)
  have HB0 := hide ((Below.refl _ w).alloc (Nat.le_refl _) (.cells #[] 3))
  have HO0 := hide (Own.empty (T := tInt) (e := 3) w (fun b => w.heap.size ≤ b) (Nat.le_refl _))
  cases hv : histV xs with
  | false =>
    rw [hv] at HCv HR
    clear hv hA
    by_cases h0 : 0 < xs.length
    · go_enter Try.func137, Try.ntmps137
      go_wp2_with fail
      refine wp_loop_rounds 1 ?_
      rw [rounds_succ]
      go_wp2_with (go_at_call 49; refine (HCv.out _ HB0.out).mono ?_; rintro e w2 ⟨rfl, hb2⟩; have HB2 := hide hb2; clear hb2)
      go_ret
      exact ⟨_, rfl, by rw [HR.out]; exact HO0.out.onlyBelow HB2.out, HB0.out.trans (HB2.out.mono HB0.out.size)⟩
    · have hz : xs.length = 0 := by omega
      go_enter Try.func137, Try.ntmps137
      go_wp2_with fail
      refine wp_loop_rounds 1 ?_
      rw [rounds_succ]
      go_wp2_with fail
      go_ret
      exact ⟨_, rfl, by rw [HR.out]; exact HO0.out, HB0.out⟩
  | true =>
    have hx6 : xs.length ≤ 6 := (histV_parts hv).1
    have HTx := hide (histV_parts hv).2
    have HAll := hide (show instL xs key = instV xs key xs.length from rfl)
    rw [hv] at HCv HR
    have HA := hide hA
    clear hv hA
    go_enter Try.func137, Try.ntmps137
    go_wp2_with fail
    go_loopw [5, 6, 7, 8] (fun v i _ _ wr => ∃ k : Nat, k ≤ xs.length ∧ i = .int .i64 k ∧ Hid (Own tInt 3 wr (fun b => w.heap.size ≤ b ∧ Old wr b) (instV xs key k) v) ∧ Hid (Below w.heap.size w wr)) (fun _ i _ _ _ => xs.length - (intOf i).toNat)
    case atStart => exact ⟨0, Nat.zero_le _, rfl, HO0.out, HB0.out⟩
    case round =>
      obtain ⟨k, hk, rfl, hO, hb⟩ := hrel
      have HO := hide hO.out; have HB := hide hb.out
      clear hO hb HO0 HB0
      by_cases hlt : k < xs.length
      · have HCk := hide (HCv.out _ HB.out)
        have HSu := hide (instV_succ xs key k hlt)
        have htx := HTx.out _ (List.getElem_mem hlt)
        have HLw := hide (fun (W : World) (hW : Below w.heap.size w W) => at_Txn HA.out hW hlt)
        have hRl := lastWs_len7 xs[k].Ops
        have HFi := hide (lastWs_filter7 xs[k].Ops key hky)
        have HSw := hide (fun (W : World) (A2 : Option Addr) (c2 : Nat) (h : Row tOp W (Old W) A2 xs[k].Ops) => specLastWrites xs[k] A2 c2 W htx h)
        have HIt := hide (show insT xs[k] key = if xs[k].Done then (lastW xs[k].Ops key).toList.map Op.Value else [] from rfl)
        have hil := instV_len xs key k
        generalize lastWs xs[k].Ops = L at HSw hRl HFi
        have hRq : L.length ≤ 9223372036854775807 := by omega
        clear htx
        go_upto_region 5 with (first | (go_at_call 49; refine HCk.out.mono ?_; rintro e w2 ⟨rfl, hb2⟩; have HB2 := hide (HB.out.trans (hb2.mono HB.out.size)); have HX2 := hide hb2; clear hb2) | (go_at_call 50; refine (l1In _ _ _ _).mono ?_; rintro e w' ⟨rfl, rfl⟩; rw [hkr]))
        obtain ⟨b1, off1, A3, c3, hAe, hbS1, e0, e1, e3, hj1, hj2, hj3⟩ := HLw.out w2 HB2.out
        subst hAe
        have HFR := hide (HSw.out w2 A3 c3 hj3)
        clear hj3 HLw HSw HCk
        go_wp2_with (go_at_call 127; refine HFR.out.mono ?_; rintro e w4 ⟨v4, rfl, hS4, hb4⟩; obtain ⟨A4, c4, rfl, h41, h42, h43⟩ := hS4.sl; have HR4 := hide h43; have HB4 := hide hb4; have HE3 := hide ((hb4.cell (p := ⟨b1, off1 + k * 3 + 2, none⟩) (Nat.lt_of_lt_of_le hbS1 HB2.out.size)).trans e3); clear hb4 h43 hS4)
        clear e0 e1 e3
        have hy2 : w.heap.size ≤ w2.heap.size := HB2.out.size
        have hy4 : w2.heap.size ≤ w4.heap.size := HB4.out.size
        have hb1w : b1 < w.heap.size := hbS1
        have HOs := hide ((HO.out.onlyBelow HX2.out).mono (w' := w4) (S2 := fun b => (w.heap.size ≤ b ∧ ¬ (w2.heap.size ≤ b ∧ b < w4.heap.size)) ∧ Old w4 b) (fun b hb => ⟨⟨hb.1, fun h9 => by have := hb.2; unfold Old at this; omega⟩, Nat.lt_of_lt_of_le hb.2 hy4⟩) (fun b hb => HB4.out.block b hb.2))
        have HB4w := hide (HB2.out.trans (HB4.out.mono HB2.out.size))
        cases hdn : xs[k].Done with
        | false =>
          rw [hdn] at HE3 HIt
          have HN := hide (show instV xs key (k + 1) = instV xs key k by rw [HSu.out, HIt.out]; simp)
          have e3 := HE3.out
          clear hdn
          by_cases h0 : 0 < L.length
          · have h0i : (0 : Int) < (L.length : Int) := by omega
            refine wp_loop_rounds 1 ?_
            rw [rounds_succ]
            go_wp2_with fail
            go_roundw
            case rel => exact ⟨k + 1, by omega, by go_num, by rw [HN.out]; exact HOs.out.mono (fun b hb => ⟨hb.1.1, hb.2⟩) (fun _ _ => rfl), HB4w.out⟩
            case measure => simp [intOf]; omega
          · have hz : L.length = 0 := by omega
            refine wp_loop_rounds 1 ?_
            rw [rounds_succ]
            go_wp2_with fail
            go_roundw
            case rel => exact ⟨k + 1, by omega, by go_num, by rw [HN.out]; exact HOs.out.mono (fun b hb => ⟨hb.1.1, hb.2⟩) (fun _ _ => rfl), HB4w.out⟩
            case measure => simp [intOf]; omega
        | true =>
          rw [hdn] at HE3 HIt
          have HN := hide (show instV xs key (k + 1) = instV xs key k ++ (lastW xs[k].Ops key).toList.map Op.Value by rw [HSu.out, HIt.out, if_pos rfl])
          clear hdn
          go_loopw [5, 8] (fun v i wr => ∃ l : Nat, l ≤ L.length ∧ i = .int .i64 l ∧ Hid (Own tInt 3 wr (fun b => (w.heap.size ≤ b ∧ ¬ (w2.heap.size ≤ b ∧ b < w4.heap.size)) ∧ Old wr b) (instV xs key k ++ ((L.take l).filter (fun o => o.Key == key)).map Op.Value) v) ∧ Hid (Only (fun b => w.heap.size ≤ b ∧ ¬ (w2.heap.size ≤ b ∧ b < w4.heap.size)) w4 wr)) (fun _ i _ => L.length - (intOf i).toNat)
          case atStart => exact ⟨0, Nat.zero_le _, rfl, (by have h9 := HOs.out; rw [← List.append_nil (instV xs key k)] at h9; exact h9), Only.refl _ _⟩
          case round =>
            obtain ⟨l, hl2, rfl, hO2, hOn2⟩ := hrel
            have HO2 := hide hO2.out; have HOw := hide hOn2.out
            clear hO2 hOn2 HOs
            have hzr := HOw.out.size
            have e3 := (World.cell?_of_block (w := w4) (a := ⟨b1, off1 + k * 3 + 2, none⟩) (HOw.out.block b1 (by omega) (fun h9 => by have := h9.1; omega))).trans HE3.out
            by_cases hlt2 : l < L.length
            · have hR6 := HR4.out.mono (w' := wr) (S' := Old wr) (fun b h => Nat.lt_of_lt_of_le h.2 HOw.out.size) (fun b h => HOw.out.block b h.2 (fun h9 => h9.2 h))
              obtain ⟨b4, off4, hA4, hbS4, x0, x1, x2⟩ := at_Op hR6 (Below.refl _ _) hlt2
              subst hA4
              have HSn := hide (filter_snoc7 L l hlt2 key)
              have hfl : ((L.take l).filter (fun o => o.Key == key)).length ≤ 3 := Nat.le_trans (List.length_filter_le _ _) (by rw [List.length_take]; omega)
              have hln : (instV xs key k ++ ((L.take l).filter (fun o => o.Key == key)).map Op.Value).length ≤ 9 := by rw [List.length_append, List.length_map]; omega
              generalize L[l] = o at x0 x1 x2 HSn
              obtain ⟨kd, ky, vl⟩ := o
              dsimp only at x0 x1 x2 HSn
              have HKs := hide (show ∀ b, wr.heap.size ≤ b → w.heap.size ≤ b ∧ ¬ (w2.heap.size ≤ b ∧ b < w4.heap.size) from fun b hb => ⟨by omega, fun h9 => by omega⟩)
              clear hR6
              cases hkk : (ky == key) with
              | false =>
                rw [hkk] at HSn
                have HS2 := hide (show _ = ((L.take l).filter (fun o => o.Key == key)).map Op.Value from HSn.out.trans (by simp))
                clear HSn
                go_wp2_with fail
                go_roundw
                case rel => exact ⟨l + 1, by omega, by go_num, by rw [HS2.out]; exact HO2.out, HOw.out⟩
                case measure => simp [intOf]; omega
              | true =>
                rw [hkk] at HSn
                have HS2 := hide (show _ = ((L.take l).filter (fun o => o.Key == key)).map Op.Value ++ [vl] from HSn.out.trans (by simp))
                clear HSn
                go_wp2_with (at_builtin; refine wpList_put tInt rfl (.tmp 49) (.tmp 55) 31 rfl 3 i0 _ 8 Try.underlying31 hi_ hz0 hz1 hz2 rfl (by decide) (fun b => w.heap.size ≤ b ∧ ¬ (w2.heap.size ≤ b ∧ b < w4.heap.size)) (fun _ => False) (instV xs key k ++ ((L.take l).filter (fun o => o.Key == key)).map Op.Value) vl [.int .i64 vl] _ rfl HO2.out 1 rfl rfl (fun _ h => h.elim) HKs.out (by simp only [maxLen]; omega) (by omega) ?_; intro v6 w6 hO_ hK_; have HO6 := hide hO_; have HK6 := hide hK_; clear hO_ hK_)
                go_roundw
                case rel => exact ⟨l + 1, by omega, by go_num, by rw [HS2.out, ← List.append_assoc]; exact HO6.out, HOw.out.trans HK6.out⟩
                case measure => simp [intOf]; omega
            · obtain rfl : l = L.length := by omega
              have HO7 := hide (show Own tInt 3 wr (fun b => w.heap.size ≤ b ∧ Old wr b) (instV xs key (k + 1)) _ from by
                have h9 := HO2.out
                rw [List.take_length, HFi.out, ← HN.out] at h9
                exact h9.mono (fun b h => ⟨h.1.1, h.2⟩) (fun _ _ => rfl))
              have HB7 := hide (below_only HB4w.out HOw.out HB4w.out.size (fun i hi => hi.1))
              go_wp2_with fail
              go_roundw
              case rel => exact ⟨k + 1, by omega, by go_num, HO7.out, HB7.out⟩
              case measure => simp [intOf]; omega
      · obtain rfl : k = xs.length := by omega
        have HF := hide (show Own tInt 3 wr (New w wr) (insR xs key) _ from by rw [HR.out, HAll.out]; exact HO.out)
        go_wp2_with fail
        go_ret
        exact ⟨_, rfl, HF.out, HB.out⟩
end Go.Proofs.Ytmlbfhknapkhgaa
