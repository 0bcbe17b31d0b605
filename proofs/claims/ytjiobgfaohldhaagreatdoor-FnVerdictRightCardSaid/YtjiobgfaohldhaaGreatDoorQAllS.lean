/- The reference's AllOrders. -/
import Derived.Test.YtjiobgfaohldhaaGreatDoorQAllF
import Derived.Test.YtjiobgfaohldhaaGreatDoorQAllI
import Derived.Test.YtjiobgfaohldhaaGreatDoorQAnyL
import Derived.Test.YtjiobgfaohldhaaGreatDoorQInsS
namespace Go.Proofs.YtjiobgfaohldhaaGreatDoor
open Go.RowKit
set_option linter.unusedVariables false
set_option linter.unusedSimpArgs false

set_option maxRecDepth 10000 in
set_option maxHeartbeats 4000000 in
theorem specAllOrders (xs : List Txn) (A0 : Option Addr) (c : Nat) (w : World) (hm : xs.length ≤ 1048576) (hn : ∀ x ∈ xs, x.Ops.length ≤ 1048576) (ht : opsN xs ≤ 1048576) (hA0 : Row tTxn w (Old w) A0 xs) :
    Calls Tryz.prog 24 #[.slice A0 xs.length c] w fun e w' => ∃ v, e = .returned v ∧ Sl (tSlice (tSlice tInt)) w' (New w w') (allO xs) v ∧ Below w.heap.size w w' := by
  have hmm : xs.length ≤ maxLen := by simp only [maxLen]; omega
  have HOw := hide (ownTxnList xs A0 c w hm hn hA0)
  clear hA0 hn
  obtain ⟨i0, hi0, hz00, hz01, hz02⟩ := info_parts infoInt_
  obtain ⟨i1, hi1, hz10, hz11, hz12⟩ := info_parts infoIntS_
  obtain ⟨i2, hi2, hz20, hz21, hz22⟩ := info_parts infoIntSS_
  cases hv : histV xs with
  | false =>
    have HE := hide (show allO xs = [] by unfold allO; rw [hv]; rfl)
    have HHv := hide (fun (A : Option Addr) (d : Nat) (W : World) (hR : Row tTxn W (Old W) A xs) => specHistoryValid xs A d W hmm hR ht)
    rw [hv] at HHv
    clear hv
    go_enter Tryz.func24, Tryz.ntmps24
    go_upto_region 2 with (go_at_call 45; refine HOw.out.mono ?_; rintro e w1 ⟨v1, rfl, hO1, hb1⟩; obtain ⟨A, c1, rfl, h11, h12, h13⟩ := hO1.weakTxn.sl; have HR1 := hide (h13.mono (w' := w1) (S' := Old w1) (fun b h => h.2) (fun _ _ => rfl)); have HB1 := hide hb1; clear hb1 h13)
    have HC := hide (HHv.out A c1 w1 HR1.out)
    go_wp2_with (go_at_call 53; refine HC.out.mono ?_; rintro e w2 ⟨rfl, hb2⟩; have HB2 := hide (HB1.out.trans (hb2.mono HB1.out.size)); clear hb2)
    go_ret
    exact ⟨_, rfl, by rw [HE.out]; exact ⟨_, 0, rfl, Nat.le_refl _, by simp [maxLen], Row.nil⟩, HB2.out.alloc HB2.out.size _⟩
  | true =>
  have HV := hide hv
  have HX6 := hide (fun key => instL_le hv key)
  have HMb := hide (fun k hk => manyK_bd hv k hk)
  have HIl := hide (partO_ilen hv)
  have HHv := hide (fun (A : Option Addr) (d : Nat) (W : World) (hR : Row tTxn W (Old W) A xs) => specHistoryValid xs A d W hmm hR ht)
  rw [hv] at HHv
  have HIn := hide (fun (key : Int) (hk : key = 0 ∨ key = 1 ∨ key = 2) (A : Option Addr) (d : Nat) (W : World) (hR : Row tTxn W (Old W) A xs) => show Calls Tryz.prog 54 #[.slice A xs.length d, .int .i64 key] W fun e w' => ∃ v, e = .returned v ∧ Own tInt 3 w' (New W w') (instL xs key) v ∧ Below W.heap.size W w' by
    have h := specInstalled xs key A d W hmm ht hk hR
    rwa [show insR xs key = instL xs key by unfold insR; rw [hv]; rfl] at h)
  clear hv
  go_enter Tryz.func24, Tryz.ntmps24
  go_upto_region 2 with (go_at_call 45; refine HOw.out.mono ?_; rintro e w1 ⟨v1, rfl, hO1, hb1⟩; obtain ⟨A, c1, rfl, h11, h12, h13⟩ := hO1.weakTxn.sl; have HR1 := hide (h13.mono (w' := w1) (S' := Old w1) (fun b h => h.2) (fun _ _ => rfl)); have HB1 := hide hb1; clear hb1 h13)
  have HC := hide (HHv.out A c1 w1 HR1.out)
  go_upto_region 6 with (go_at_call 53; refine HC.out.mono ?_; rintro e w2 ⟨rfl, hb2⟩; have HB2 := hide (HB1.out.trans (hb2.mono HB1.out.size)); have HA2 := hide (HR1.out.old hb2); clear hb2)
  clear HC HR1 HB1 HOw HHv
  go_loopw [3, 4, 5] (fun m i _ wr => ∃ k : Nat, k ≤ 3 ∧ i = .int .i64 k ∧ m = .int .i64 (manyK xs k : Nat) ∧ Hid (Below w2.heap.size w2 wr)) (fun _ i _ _ => 3 - (intOf i).toNat)
  case atStart => exact ⟨0, by omega, rfl, rfl, Below.refl _ _⟩
  case round =>
    obtain ⟨k, hk, rfl, rfl, hb⟩ := hrel
    have HBk := hide hb.out
    clear hb
    by_cases hlt : k < 3
    · have hki : (k : Int) ≤ 2 := by omega
      have HL6 := hide (HX6.out (k : Int))
      have hM := HMb.out k hk
      have HMs := hide (show manyK xs (k + 1) = manyK xs k * fct (instL xs (k : Int)).length from rfl)
      have HInk := hide (fun (W : World) (hb : Below w2.heap.size w2 W) => HIn.out (k : Int) (by omega) A c1 W (HA2.out.old hb))
      generalize manyK xs k = m at hM HMs
      generalize instL xs (k : Int) = Lk at HL6 HMs HInk
      have hn6 : Lk.length ≤ 6 := HL6.out
      go_upto_region 9 with fail
      go_loopw [3, 5] (fun m2 j wq => ∃ l : Nat, l ≤ 6 ∧ (l = 0 ∨ l + 1 ≤ Lk.length) ∧ j = .int .i64 ((l : Int) + 2) ∧ m2 = .int .i64 ((m * fct (l + 1) : Nat) : Int) ∧ Hid (Below w2.heap.size w2 wq)) (fun _ j _ => 9 - (intOf j).toNat)
      case atStart => exact ⟨0, by omega, .inl rfl, rfl, by rw [show fct (0 + 1) = 1 from rfl, Nat.mul_one], HBk.out⟩
      case round =>
        obtain ⟨l, hl, hl2, rfl, rfl, hb⟩ := hrel
        have HBl := hide hb.out
        clear hb
        have HC := hide (HInk.out wr HBl.out)
        by_cases hlt2 : l + 2 ≤ Lk.length
        · have hli : (l : Int) + 2 ≤ (Lk.length : Int) := by omega
          have hf := fct_le6 (n := l + 1) (by omega)
          have hmf : m * fct (l + 1) ≤ 373248000 * 720 := Nat.mul_le_mul hM hf
          have HFs := hide (show m * fct (l + 1 + 1) = m * fct (l + 1) * (l + 2) by rw [fct, Nat.mul_comm (l + 1 + 1), Nat.mul_assoc])
          generalize m * fct (l + 1) = q at hmf HFs
          have hw1 : IntKind.i64.wrap ((l : Int) + 2 + 1) = (l : Int) + 2 + 1 := by rw [IntKind.wrap_i64]; omega
          have hw2 : IntKind.i64.wrap ((q : Int) * ((l : Int) + 2)) = (q : Int) * ((l : Int) + 2) := by
            have h1 : q * (l + 2) ≤ 373248000 * 720 * 8 := Nat.mul_le_mul hmf (by omega)
            have h2 : ((q * (l + 2) : Nat) : Int) = (q : Int) * ((l : Int) + 2) := by push_cast; rfl
            rw [← h2, IntKind.wrap_i64]; omega
          clear hf
          go_wp2_with (go_at_call 54; refine HC.out.mono ?_; rintro e w4 ⟨v4, rfl, hO4, hb4⟩; obtain ⟨A4, c4, rfl, _⟩ := hO4.sl; have HB4 := hide (HBl.out.trans (hb4.mono HBl.out.size)); clear hO4 hb4)
          go_roundw
          case rel => exact ⟨l + 1, by omega, .inr (by omega), by go_num, by rw [HFs.out]; push_cast; rfl, HB4.out⟩
          case measure => simp [intOf]; omega
        · have hln : ¬ ((l : Int) + 2 ≤ (Lk.length : Int)) := by omega
          have HFe := hide (show m * fct (l + 1) = manyK xs (k + 1) by
            rw [HMs.out]
            rcases hl2 with rfl | hl2
            · rcases (by omega : Lk.length = 0 ∨ Lk.length = 1) with h | h <;> rw [h] <;> rfl
            · rw [show Lk.length = l + 1 by omega])
          go_wp2_with (go_at_call 54; refine HC.out.mono ?_; rintro e w4 ⟨v4, rfl, hO4, hb4⟩; obtain ⟨A4, c4, rfl, _⟩ := hO4.sl; have HB4 := hide (HBl.out.trans (hb4.mono HBl.out.size)); clear hO4 hb4)
          go_roundw
          case rel => exact ⟨k + 1, by omega, by go_num, by rw [← HFe.out]; push_cast; rfl, HB4.out⟩
          case measure => simp [intOf]; omega
    · obtain rfl : k = 3 := by omega
      have HAl := hide (show allO xs = if decide (manyK xs 3 ≤ 200) then partO xs 3 else [] by unfold allO; rw [HV.out]; rfl)
      have hM := HMb.out 3 hk
      have HB3 := hide (HB2.out.trans (HBk.out.mono HB2.out.size))
      have HA3 := hide (HA2.out.old HBk.out)
      clear hlt hk HBk HA2 HB2
      by_cases h200 : (200 : Int) < ((manyK xs 3 : Nat) : Int)
      · have HE := hide (show allO xs = [] by rw [HAl.out]; rw [if_neg]; rw [decide_eq_true_eq]; omega)
        generalize manyK xs 3 = m at h200 hM
        go_wp2_with fail
        go_ret
        exact ⟨_, rfl, by rw [HE.out]; exact ⟨_, 0, rfl, Nat.le_refl _, by simp [maxLen], Row.nil⟩, HB3.out.alloc HB3.out.size _⟩
      have HE := hide (show allO xs = partO xs 3 by rw [HAl.out]; rw [if_pos]; rw [decide_eq_true_eq]; omega)
      have h200' : ¬ (200 : Int) < ((manyK xs 3 : Nat) : Int) := h200
      have HMl := hide (show ∀ k, k ≤ 3 → (partO xs k).length ≤ 200 from fun k hk => by
        rw [partO_len]
        have h0 : manyK xs 0 ≤ manyK xs 1 := manyK_mono xs 0
        have h1 : manyK xs 1 ≤ manyK xs 2 := manyK_mono xs 1
        have h2 : manyK xs 2 ≤ manyK xs 3 := manyK_mono xs 2
        rcases (by omega : k = 0 ∨ k = 1 ∨ k = 2 ∨ k = 3) with rfl | rfl | rfl | rfl <;> omega)
      clear h200 HAl
      generalize manyK xs 3 = m at h200' hM
      obtain ⟨w3, hw3⟩ : ∃ w3 : World, w3 = wr := ⟨_, rfl⟩
      subst hw3
      have HO0 := hide (Own.one (T := tSlice (tSlice tInt)) (e := 31) (w3.alloc (.cells #[] 27)) (K := fun b => w3.heap.size ≤ b ∧ Old ((w3.alloc (.cells #[] 27)).alloc (.cells #[.slice (some ⟨w3.heap.size, 0, none⟩) 0 0] 31)) b) [.slice (some ⟨w3.heap.size, 0, none⟩) 0 0] ⟨_, rfl, (Own.empty (T := tSlice tInt) (e := 27) w3 (fun b => w3.heap.size ≤ b) (Nat.le_refl _)).sl⟩ (fun b h => ⟨⟨h.1, Nat.lt_of_lt_of_le h.2 (by simp)⟩, h.2⟩) ⟨by simp, by simp [Old]⟩)
      have HB0 := hide (((Below.refl _ w3).alloc (Nat.le_refl _) (.cells #[] 27)).alloc (by simp) (.cells #[.slice (some ⟨w3.heap.size, 0, none⟩) 0 0] 31))
      go_upto_region 16 with fail
      clear h200' hM
      go_loopw [6, 7, 8, 9, 10, 11] (fun out i _ _ _ _ wc => ∃ k : Nat, k ≤ 3 ∧ i = .int .i64 k ∧ Hid (Own (tSlice (tSlice tInt)) 31 wc (fun b => w3.heap.size ≤ b ∧ Old wc b) (partO xs k) out) ∧ Hid (Below w3.heap.size w3 wc)) (fun _ i _ _ _ _ _ => 3 - (intOf i).toNat)
      case atStart => exact ⟨0, by omega, rfl, by have h := HO0.out; rw [show (w3.alloc (Obj.cells #[] 27)).heap.size = w3.heap.size + 1 by simp] at h; exact h, HB0.out⟩
      case round =>
        obtain ⟨k, hk, rfl, hO, hb⟩ := hrel
        have HO := hide hO.out; have HB := hide hb.out
        clear hO hb HO0 HB0
        obtain ⟨Ao, co, rfl, ho1, ho2, ho3⟩ := HO.out.sl
        have HRo := hide (ho3.mono (w' := wr) (S' := Old wr) (fun b h => h.2) (fun _ _ => rfl))
        have hom := HMl.out k hk
        have hoq : (partO xs k).length ≤ 9223372036854775807 := by omega
        have HPl := hide (partO_mlen xs k)
        have HPi := hide (HIl.out k)
        have HSt := hide (fun i hi => stepO_succ (partO xs k) (instL xs (k : Int)) i hi)
        have HPn := hide (show stepO (partO xs k) (instL xs (k : Int)) = partO xs (k + 1) from rfl)
        have HQ := hide HB.out.size
        clear ho3
        by_cases hlt : k < 3
        · have hki : (k : Int) ≤ 2 := by omega
          have HInk := hide (HIn.out (k : Int) (by omega) A c1 wr (HA3.out.old HB.out))
          have hL6 := HX6.out (k : Int)
          generalize partO xs k = P at HRo hom hoq HPl HPi HSt HPn ho1 HO
          generalize instL xs (k : Int) = L at HInk hL6 HSt HPn
          go_upto_region 21 with (first | (go_at_call 54; refine HInk.out.mono ?_; rintro e w4 ⟨v4, rfl, hO4, hb4⟩; obtain ⟨A4, c4, rfl, h41, h42, h43⟩ := hO4.sl; have HR4 := hide (h43.mono (w' := w4) (S' := Old w4) (fun b h => h.2) (fun _ _ => rfl)); have HB4 := hide hb4; clear hO4 hb4 h43) | (go_at_call 55; refine (orders_any L.length L A4 c4 w4 rfl (by omega) h41 h42 HR4.out).mono ?_; rintro e w5 ⟨v5, rfl, hO5, hb5⟩; obtain ⟨A5, c5, rfl, h51, h52, h53⟩ := hO5.weakIntS.sl; have HR5 := hide (h53.mono (w' := w5) (S' := Old w5) (fun b h => h.2) (fun _ _ => rfl)); have HB5 := hide (HB4.out.trans (hb5.mono HB4.out.size)); clear hO5 hb5 h53))
          have HML := hide (permsI_len L.length L rfl)
          have HMm := hide (fun o => permsI_mem_len L.length L o rfl)
          have hfc := fct_le6 hL6
          have hML7 : (permsI L.length L).length ≤ 720 := by rw [HML.out]; exact hfc
          have HSl := hide (fun i => stepO_len (P.take i) L)
          have HXb := hide (fun i (hi : i ≤ P.length) => show (stepO (P.take i) L).length ≤ 200 * 720 by
            rw [HSl.out i]
            exact Nat.mul_le_mul (by rw [List.length_take]; omega) hfc)
          generalize permsI L.length L = M at HR5 h51 HML HMm hML7 HSt
          have hMq : M.length ≤ 9223372036854775807 := by omega
          have HN0 := hide (Own.empty (T := tSlice (tSlice tInt)) (e := 31) w5 (fun b => w5.heap.size ≤ b) (Nat.le_refl _))
          have HNb := hide ((Below.refl _ w5).alloc (Nat.le_refl _) (.cells #[] 31))
          obtain ⟨wx, hwx⟩ : ∃ wx : World, wx = wr := ⟨_, rfl⟩
          subst hwx
          go_loopw [9, 10, 11] (fun nx i _ wq => ∃ (i' : Nat), i' ≤ P.length ∧ i = .int .i64 i' ∧ Hid (Own (tSlice (tSlice tInt)) 31 wq (fun b => w5.heap.size ≤ b ∧ Old wq b) (stepO (P.take i') L) nx) ∧ Hid (Below w5.heap.size w5 wq)) (fun _ i _ _ => P.length - (intOf i).toNat)
          case atStart => exact ⟨0, Nat.zero_le _, rfl, by rw [List.take_zero, stepO_nil]; exact HN0.out, HNb.out⟩
          case round =>
            obtain ⟨i, hi, rfl, hO, hb⟩ := hrel
            have HNx := hide hO.out; have HBq := hide hb.out
            clear hO hb HN0 HNb
            by_cases hlt2 : i < P.length
            · have hii : (i : Int) < (P.length : Int) := by omega
              obtain ⟨b3, off3, A3, c3, rfl, hb3S, e0, e1, e2, hR3⟩ := at_SliceG HRo.out hlt2
              have hS3 := HSt.out i hlt2
              have HSs := hide hS3
              have HX7 := hide (HXb.out i hi)
              have h3l := HPl.out _ (List.getElem_mem hlt2)
              have HK3 := hide (show P[i].length ≤ 3 by omega)
              have HI3 := hide (HPi.out _ (List.getElem_mem hlt2))
              have HR3 := hide hR3; have He0 := hide e0
              clear hR3 e0 hS3 h3l
              generalize P[i] = bg at He0 e1 e2 HR3 HI3 HSs HK3
              generalize stepO (P.take i) L = X at HNx HSs HX7
              go_upto_region 24 with fail
              go_loopw [9, 11] (fun nx j we => ∃ (l : Nat) (vn : Value), vn = nx ∧ l ≤ M.length ∧ j = .int .i64 l ∧ Hid (Own (tSlice (tSlice tInt)) 31 we (fun b => w5.heap.size ≤ b ∧ Old we b) (X ++ (M.take l).map fun o => bg ++ [o]) nx) ∧ Hid (Below w5.heap.size w5 we)) (fun _ j _ => M.length - (intOf j).toNat)
              case atStart => exact ⟨0, _, rfl, Nat.zero_le _, rfl, by rw [List.take_zero, List.map_nil, List.append_nil]; exact HNx.out, HBq.out⟩
              case round =>
                obtain ⟨l, vn, rfl, hl, rfl, hO, hb⟩ := hrel
                have HNy := hide hO.out; have HBe := hide hb.out
                clear hO hb HNx HBq
                by_cases hlt4 : l < M.length
                · have hli : (l : Int) < (M.length : Int) := by omega
                  obtain ⟨b6, off6, A6, c6, hA5e, hb6, f0, f1, f2, hR6⟩ := at_SliceG HR5.out hlt4
                  subst hA5e
                  have HBw := hide (fun (W : World) (hb : Below wr.heap.size wr W) => HBe.out.trans (hb.mono HBe.out.size))
                  have HC6 := hide (fun (W : World) (hb : Below wr.heap.size wr W) => ((HBw.out W hb).cell (p := ⟨b6, off6 + l, none⟩) hb6).trans f0)
                  have HR6 := hide (fun (W : World) (hb : Below wr.heap.size wr W) => (hR6.old (HBw.out W hb)).anyInt)
                  have HC3 := hide (fun (W : World) (hb : Below wr.heap.size wr W) => ((HB5.out.trans ((HBw.out W hb).mono HB5.out.size)).cell (p := ⟨b3, off3 + i, none⟩) hb3S).trans He0.out)
                  have HCp := hide (fun (W : World) (hb : Below wr.heap.size wr W) => ownRowsIntA bg A3 c3 W (by have := HK3.out; omega) (fun x hx => by have := HI3.out x hx; omega) (HR3.out.old (HB5.out.trans ((HBw.out W hb).mono HB5.out.size))))
                  have hm6 := HMm.out _ (List.getElem_mem hlt4)
                  have HM6 := hide (show M[l].length ≤ 6 by omega)
                  have HLt := hide (show ∀ p : List (List Int), p = bg ++ [M[l]] → (X ++ (M.take l).map fun o => bg ++ [o]) ++ [p] = X ++ (M.take (l + 1)).map fun o => bg ++ [o] from by
                    intro p hp
                    rw [List.take_succ_eq_append_getElem hlt4, List.map_append, ← List.append_assoc, hp]
                    rfl)
                  have HLn := hide (show (X ++ (M.take l).map fun o => bg ++ [o]).length + 1 ≤ 200 * 720 + 721 by
                    have h1 := HX7.out; rw [List.length_append, List.length_map, List.length_take]; omega)
                  clear f0 hR6 hm6
                  generalize X ++ (M.take l).map (fun o => bg ++ [o]) = Y at HNy HLt HLn
                  generalize M[l] = m9 at f1 f2 HC6 HR6 HLt HM6
                  go_upto_region 26 with fail
                  refine wp_region_factsL 15 (fun _ W => Below wr.heap.size wr W) (FAll wr.heap.size bg m9 (fun q9 : Nat => match q9 with | 0 => vn | 1 => .slice (some ⟨b3, off3, none⟩) P.length co | 2 => .int .i64 (i : Int) | 3 => .pointer (some ⟨b3, off3 + i, none⟩) | 4 => .slice A3 bg.length c3 | 5 => undef | 6 => undef | 7 => .slice (some ⟨b6, off6, none⟩) M.length c5 | 8 => .int .i64 (l : Int) | 9 => .pointer (some ⟨b6, off6 + l, none⟩) | 10 => .slice A6 m9.length c6 | 11 => undef | 12 => undef | 13 => undef | 14 => undef | _ => undef)) (fun k9 a b => Below wr.heap.size a b ∧ (k9 ≠ 13 → Below a.heap.size a b)) [some 59, some 60, some 61, some 62, some 63, some 64, some 65, some 66, some 67, some 68, some 69, some 70, some 71, some 72, some 73] (by kernel_rfl) (by kernel_rfl) (by kernel_rfl) ?_ (by kernel_rfl) ?_ ?_ ?_ ?_
                  · intro i p9 hi hg L9 v w9 hF
                    have hi' : i = 0 ∨ i = 1 ∨ i = 2 ∨ i = 3 ∨ i = 4 ∨ i = 5 ∨ i = 6 ∨ i = 7 ∨ i = 8 ∨ i = 9 ∨ i = 10 ∨ i = 11 ∨ i = 12 ∨ i = 13 ∨ i = 14 := by omega
                    clear hF hi
                    rcases hi' with rfl | rfl | rfl | rfl | rfl | rfl | rfl | rfl | rfl | rfl | rfl | rfl | rfl | rfl | rfl <;> cases hg
                  · exact (Below.refl _ wr).drew
                  · intro L9 i k9 v wa wb hi hk9 hnd hLk hne hF hE
                    refine hF.ev hi hLk (fun e => ?_) (fun h e => ?_) hE.2
                    · subst e; exact ⟨hne 11 (by decide) (by kernel_rfl), hne 12 (by decide) (by kernel_rfl)⟩
                    · subst e; rcases h with rfl | rfl
                      · exact absurd hnd (by rw [show needB _ _ _ _ = true by kernel_rfl]; simp)
                      · exact absurd hnd (by rw [show needB _ _ _ _ = true by kernel_rfl]; simp)
                  · intro i o hi ho a wa L9 hL hJ hc hd K hK
                    have hi' : i = 0 ∨ i = 1 ∨ i = 2 ∨ i = 3 ∨ i = 4 ∨ i = 5 ∨ i = 6 ∨ i = 7 ∨ i = 8 ∨ i = 9 ∨ i = 10 ∨ i = 11 ∨ i = 12 ∨ i = 13 ∨ i = 14 := by omega
                    clear hi
                    have hz9 := hJ.size
                    rcases hi' with rfl | rfl | rfl | rfl | rfl | rfl | rfl | rfl | rfl | rfl | rfl | rfl | rfl | rfl | rfl
                    all_goals
                      simp only [List.getElem?_toArray, List.getElem?_cons_zero, List.getElem?_cons_succ, Option.some.injEq] at ho
                      subst ho
                      simp only [reduceCtorEq, if_false] at hK
                    · have e9 := (hc 9 (by kernel_rfl)).trans rfl
                      go_simp
                      exact hK _ _ (FAll.val (by decide) rfl) hJ ⟨Below.refl _ _, fun _ => Below.refl _ _⟩
                    · have e6 := (hc 6 (by kernel_rfl)).trans rfl
                      go_simp
                      exact hK _ _ (FAll.val (by decide) rfl) hJ ⟨Below.refl _ _, fun _ => Below.refl _ _⟩
                    · have e10 := (hc 10 (by kernel_rfl)).trans rfl
                      go_simp
                      exact hK _ _ (FAll.val (by decide) rfl) hJ ⟨Below.refl _ _, fun _ => Below.refl _ _⟩
                    · have e60 : a.tmps.getD 60 undef = .slice (some ⟨b3, off3, none⟩) P.length co := (hd 1 60 (by kernel_rfl)).get (by decide)
                      have e61 : a.tmps.getD 61 undef = .int .i64 (i : Int) := (hd 2 61 (by kernel_rfl)).get (by decide)
                      have s2 : i < P.length := hlt2
                      go_simp
                      exact hK _ _ (FAll.val (by decide) rfl) hJ ⟨Below.refl _ _, fun _ => Below.refl _ _⟩
                    · have e62 : a.tmps.getD 62 undef = .pointer (some ⟨b3, off3 + i, none⟩) := (hd 3 62 (by kernel_rfl)).get (by decide)
                      have c9 := HC3.out wa hJ
                      go_simp
                      exact hK _ _ (FAll.val (by decide) rfl) hJ ⟨Below.refl _ _, fun _ => Below.refl _ _⟩
                    · have e63 : a.tmps.getD 63 undef = .slice A3 bg.length c3 := (hd 4 63 (by kernel_rfl)).get (by decide)
                      go_simp
                      refine (HCp.out wa hJ).mono ?_
                      rintro e w9 ⟨v9, rfl, hO9, hb9⟩
                      exact hK _ _ (FAll.iff5.2 fun _ => hO9.weakIntS.mono (fun b h => ⟨Nat.le_trans hz9 h.1, h.2⟩) (fun _ _ => rfl)) (hJ.trans (hb9.mono hz9)) ⟨hb9.mono hz9, fun _ => hb9⟩
                    · go_simp
                      exact hK _ _ (FAll.iff6.2 fun _ => ⟨_, rfl, Own.empty wa (fun b => wr.heap.size ≤ b) hz9⟩) (hJ.alloc hz9 _) ⟨(Below.refl _ wa).alloc hz9 _, fun _ => (Below.refl _ wa).alloc (Nat.le_refl _) _⟩
                    · have e8 := (hc 8 (by kernel_rfl)).trans rfl
                      go_simp
                      exact hK _ _ (FAll.val (by decide) rfl) hJ ⟨Below.refl _ _, fun _ => Below.refl _ _⟩
                    · have e11 := (hc 11 (by kernel_rfl)).trans rfl
                      go_simp
                      exact hK _ _ (FAll.val (by decide) rfl) hJ ⟨Below.refl _ _, fun _ => Below.refl _ _⟩
                    · have e66 : a.tmps.getD 66 undef = .slice (some ⟨b6, off6, none⟩) M.length c5 := (hd 7 66 (by kernel_rfl)).get (by decide)
                      have e67 : a.tmps.getD 67 undef = .int .i64 (l : Int) := (hd 8 67 (by kernel_rfl)).get (by decide)
                      have s2 : l < M.length := hlt4
                      go_simp
                      exact hK _ _ (FAll.val (by decide) rfl) hJ ⟨Below.refl _ _, fun _ => Below.refl _ _⟩
                    · have e68 : a.tmps.getD 68 undef = .pointer (some ⟨b6, off6 + l, none⟩) := (hd 9 68 (by kernel_rfl)).get (by decide)
                      have c9 := HC6.out wa hJ
                      go_simp
                      exact hK _ _ (FAll.val (by decide) rfl) hJ ⟨Below.refl _ _, fun _ => Below.refl _ _⟩
                    · have e69 : a.tmps.getD 69 undef = .slice A6 m9.length c6 := (hd 10 69 (by kernel_rfl)).get (by decide)
                      obtain ⟨p9, e65, hO⟩ := FAll.iff6.1 (hd 6 65 (by kernel_rfl)) hL
                      rw [e65] at hO
                      refine wp_app0 tInt (.tmp 65) (.tmp 69) 27 rfl 3 i0 _ 8 Tryz.underlying27 hi0 hz00 hz01 hz02 rfl (by decide) (fun b => wr.heap.size ≤ b ∧ Old wa b) (fun _ => False) (fun b => wr.heap.size ≤ b) m9 p9 e65 hO A6 m9.length c6 e69 rfl (HR6.out wa hJ) (by have := HM6.out; simp only [maxLen]; omega) (by have := HM6.out; omega) (fun b h => h.2) (fun b h => h.elim) (fun b h => h.1) (fun b h => h.elim) hz9 ?_
                      intro v9 w9 hO9 hB9
                      exact hK _ _ (FAll.iff11.2 fun _ => hO9) (hJ.trans (hB9.mono hz9)) ⟨hB9.mono hz9, fun _ => hB9⟩
                    · have hO := FAll.iff11.1 (hd 11 70 (by kernel_rfl)) hL
                      obtain ⟨A9, d9, e70, h91, h92, _⟩ := hO.sl
                      rw [e70] at hO
                      obtain ⟨Sy, hS1, hS2⟩ := own_int_blk hO
                      have e9 : a.tmps.getD 70 undef = .slice A9 m9.length d9 := e70
                      clear e70
                      rw [Array.getD_eq_getD_getElem?] at e9
                      go_simp
                      exact hK _ _ (FAll.iff12.2 fun _ => ⟨wa.heap.size, Sy, rfl, row_one 27 ⟨_, rfl, hS1⟩ (fun b hb => by obtain ⟨_, cur, hc⟩ := hS2 b hb; exact hc.lt), by simp [Old], fun b hb => by obtain ⟨h1, cur, hc⟩ := hS2 b hb; exact ⟨h1, cur, hc.alloc _⟩⟩) (hJ.alloc hz9 _) ⟨(Below.refl _ wa).alloc hz9 _, fun _ => (Below.refl _ wa).alloc (Nat.le_refl _) _⟩
                    · have hO := FAll.iff5.1 (hd 5 64 (by kernel_rfl)) hL
                      obtain ⟨p9, Sy, e71, hy, hp, hS⟩ := FAll.iff12.1 (hd 12 71 (by kernel_rfl)) hL
                      have hOb := own_intS_blk hO
                      generalize hv64 : a.tmps.getD 64 undef = v64 at hO hOb
                      refine wp_app (tSlice tInt) (.tmp 64) (.tmp 71) 31 rfl 27 i1 _ 24 Tryz.underlying31 hi1 hz10 hz11 hz12 rfl (by decide) (fun b => wr.heap.size ≤ b ∧ Old wa b) Sy (fun b => wr.heap.size ≤ b) bg [m9] v64 hv64 hO _ 1 1 e71 rfl hy (by have := HK3.out; simp only [maxLen, List.length_singleton]; omega) (by have := HK3.out; simp only [List.length_singleton]; omega) (fun b h => h.2) (fun b hb => by obtain ⟨h1, cur, hc⟩ := hS b hb; exact ⟨hc.lt, fun e => by obtain ⟨cur2, hc2⟩ := hOb b e; exact hc2.ne_ hc (by decide) rfl⟩) (fun b h => h.1) (fun b hb => (hS b hb).1) hz9 ?_
                      intro v9 w9 hO9 hg9
                      have hB9 := (Below.refl wr.heap.size wa).grown hg9 hz9 (fun k hk => (hO.owned k hk).1)
                      exact hK _ _ (FAll.iff13.2 hO9) (hJ.trans hB9) ⟨hB9, fun e => absurd rfl e⟩
                    · have hO := FAll.iff13.1 (hd 13 72 (by kernel_rfl))
                      obtain ⟨A9, d9, e72, h91, h92, _⟩ := hO.sl
                      rw [e72] at hO
                      have e9 : a.tmps.getD 72 undef = .slice A9 (bg ++ [m9]).length d9 := e72
                      clear e72
                      rw [Array.getD_eq_getD_getElem?] at e9
                      have hS9 : Sl (tSlice tInt) wa (fun b => wr.heap.size ≤ b ∧ Old wa b) (bg ++ [m9]) (.slice A9 (bg.length + 1) d9) := (by have h := hO.sl; rw [List.length_append] at h; exact h)
                      go_simp
                      exact hK _ _ (FAll.iff14.2 ⟨wa.heap.size, rfl, (row_one (T := tSlice (tSlice tInt)) 31 (cs := [_]) ⟨_, rfl, hS9⟩ (fun b hb => hb.2)).stay (fun b hb => ⟨hb.1, Nat.lt_of_lt_of_le hb.2 (by simp)⟩) (fun _ _ => rfl) rfl, by simp [Old]⟩) (hJ.alloc hz9 _) ⟨(Below.refl _ wa).alloc hz9 _, fun _ => (Below.refl _ wa).alloc (Nat.le_refl _) _⟩
                  · intro vs wz L9 hL hJ hF
                    have f0 : vs 0 = vn := (hF 0 (by decide)).get (by decide)
                    obtain ⟨p9, f14, hy9, hp9⟩ := FAll.iff14.1 (hF 14 (by decide))
                    simp only [putD, Act.put, List.setIfInBounds_toArray, List.set_cons_zero, List.set_cons_succ, List.drop_succ_cons, List.drop_zero]
                    rw [f0, f14]
                    clear hF f0 f14
                    have HJ := hide (HBe.out.trans (hJ.mono HBe.out.size))
                    have HOz := hide (HNy.out.mono (w' := wz) (S2 := fun b => w5.heap.size ≤ b ∧ Old wr b) (fun b h => h) (fun b h => hJ.block b h.2))
                    have HNl := hide (own_lt (B := wr.heap.size) HNy.out (fun b h => h.2))
                    have HNw := hide (fun b e => (HNy.out.owned b e).1)
                    have HZr := hide hJ.size
                    have HZe := hide HBe.out.size
                    clear hJ
                    go_wp2_with (at_builtin; refine wpList_app (tSlice (tSlice tInt)) rfl (.tmp 59) (.tmp 73) 46 rfl 31 i2 _ 24 Tryz.underlying46 hi2 hz20 hz21 hz22 rfl (by decide) (fun b => w5.heap.size ≤ b ∧ Old wr b) (fun b => wr.heap.size ≤ b ∧ Old wz b) (fun b => w5.heap.size ≤ b) Y [bg ++ [m9]] vn rfl HOz.out _ 1 1 rfl rfl hy9 (by have := HLn.out; simp only [maxLen, List.length_singleton]; omega) (by have := HLn.out; simp only [List.length_singleton]; omega) (fun b h => Nat.lt_of_lt_of_le h.2 HZr.out) (fun b hb => ⟨hb.2, fun e => by have := HNl.out b e; have := hb.1; omega⟩) (fun b h => h.1) (fun b hb => Nat.le_trans HZe.out hb.1) (Nat.le_trans HZe.out HZr.out) ?_; intro v9 w9 hO_ hg_; have HO9 := hide hO_; have HG9 := hide hg_; clear hO_ hg_)
                    have HL9 := HO9.out
                    rw [HLt.out _ rfl] at HL9
                    have HL9 := hide HL9
                    have HB9 := hide (HJ.out.grown HG9.out HJ.out.size (fun b e => HNw.out b e))
                    go_roundw
                    case rel => exact ⟨l + 1, _, rfl, by omega, by go_num, HL9.out, HB9.out⟩
                    case measure => simp [intOf]; omega
                · obtain rfl : l = M.length := by omega
                  have HO8 := HNy.out
                  rw [List.take_length, ← HSs.out] at HO8
                  have HO8 := hide HO8
                  clear HNy
                  go_wp2_with fail
                  go_roundw
                  case rel => exact ⟨i + 1, by omega, by go_num, HO8.out, HBe.out⟩
                  case measure => simp [intOf]; omega
            · obtain rfl : i = P.length := by omega
              have HO8 := HNx.out
              rw [List.take_length, HPn.out] at HO8
              have HO8 := hide (show Own (tSlice (tSlice tInt)) 31 wr (fun b => w3.heap.size ≤ b ∧ Old wr b) (partO xs (k + 1)) _ from HO8.mono (fun b h => ⟨Nat.le_trans (Nat.le_trans HQ.out HB5.out.size) h.1, h.2⟩) (fun _ _ => rfl))
              have HB8 := hide ((HB.out.trans (HB5.out.mono HQ.out)).trans (HBq.out.mono (Nat.le_trans HQ.out HB5.out.size)))
              clear HNx
              go_wp2_with fail
              go_roundw
              case rel => exact ⟨k + 1, by omega, by go_num, HO8.out, HB8.out⟩
              case measure => simp [intOf]; omega
        · obtain rfl : k = 3 := by omega
          go_wp2_with fail
          go_ret
          have hX := HO.out.sl
          exact ⟨_, rfl, by rw [HE.out]; exact hX.mono (fun b h => ⟨Nat.le_trans HB3.out.size h.1, h.2⟩) (fun _ _ => rfl), HB3.out.trans (HB.out.mono HB3.out.size)⟩
end Go.Proofs.YtjiobgfaohldhaaGreatDoor
