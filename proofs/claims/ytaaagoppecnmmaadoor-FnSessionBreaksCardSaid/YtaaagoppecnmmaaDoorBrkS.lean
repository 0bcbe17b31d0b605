/- The reference's l14Seen. The reference's copies of lists of lists: l1OwnRowsInt. The reference's SessionBreaks. -/
import Derived.Test.YtaaagoppecnmmaaDoorBrkR
import Derived.Test.YtaaagoppecnmmaaDoorLastS
import Derived.Deep.RegionHeld3
import Derived.Test.YtaaagoppecnmmaaDoorOwnList
import Derived.Test.YtaaagoppecnmmaaDoorToB
import Derived.BigQuiet
namespace Go.Proofs.YtaaagoppecnmmaaDoor
open Go.RowKit
set_option linter.unusedVariables false
set_option linter.unusedSimpArgs false

set_option maxRecDepth 10000 in
set_option maxHeartbeats 4000000 in
theorem specSeen1 (t : Txn) (os : List (List Int)) (m : Nat) (B A : Option Addr) (c d : Nat) (w : World) (hm : m < os.length) (hmo : os.length ≤ 1048576) (hsz : ∀ o ∈ os, o.length ≤ 1048576) (hv : txnOk t = true) (hB : Row (tSlice tInt) w (Old w) B os) (hA : Row tOp w (Old w) A t.Ops) :
    Calls Tryd.prog 105 #[.agg #[.int .i64 t.Session, .slice A t.Ops.length c, .bool t.Done], .slice B os.length d, .int .i64 1, .int .i64 (m : Int)] w fun e w' => e = .returned (.int .i64 (seenK os (didOf 1 t) (m : Int) (didOf 1 t).length)) ∧ Below w.heap.size w w' := by
  have h6 := (txnOk_parts hv).2
  have hdd : didOf 1 t = lastWs t.Ops := by unfold didOf; rw [if_neg (by decide)]
  have hdl := didOf_len 1 t h6
  have HB0 := hide ((Below.refl _ w).alloc (Nat.le_refl _) (.cells #[.int .i64 t.Session, .slice A t.Ops.length c, .bool t.Done] 42))
  have HX0 := hide (Blk.new w 42 #[.int .i64 t.Session, .slice A t.Ops.length c, .bool t.Done])
  have HLs := hide (fun (W : World) (hW : Below w.heap.size w W) => specLastWrites t A c W hv (hA.old hW))
  have HFr := hide (fun (W : World) (hW : Below w.heap.size w W) => specFirstReads t A c W hv (hA.old hW))
  have HDd := hide hdd
  have HS0 := hide (seenK_succ os (didOf 1 t) (m : Int))
  have HSb := hide (seenK_bd os (didOf 1 t) (m : Int) hsz)
  have HOs := hide hB
  obtain ⟨did, hdid⟩ : ∃ did, did = didOf 1 t := ⟨_, rfl⟩
  rw [← hdid] at HS0 HSb hdl HDd ⊢
  have hol := hsz _ (List.getElem_mem hm)
  have hz : seenK os did (m : Int) 0 = -1 := rfl
  have HZ := hide hz
  have hq1 : did.length ≤ 9223372036854775807 := by omega
  have hq3 : os.length ≤ 9223372036854775807 := by omega
  have hm0 : (0 : Int) ≤ (m : Int) := by omega
  clear hdd hA hB hdid hsz hz hv
  go_enter Tryd.func105, Tryd.ntmps105
  go_wp2_with (first
    | (go_at_call 149; refine (HLs.out _ HB0.out).mono ?_; rintro e w1 ⟨v1, rfl, hS1, hb1⟩; obtain ⟨A1, c1, rfl, h11, h12, hR1⟩ := hS1.sl; have HB1 := hide (HB0.out.trans (hb1.mono HB0.out.size)); have HR1 := hide (hR1.mono (S' := Old w1) (fun b h => h.2) (fun _ _ => rfl)); have hX1 := HX0.out.below hb1 HX0.out.lt; have x0 := hX1.cell 0; have x1 := hX1.cell 1; have x2 := hX1.cell 2; simp only [List.getElem?_toArray, List.getElem?_cons_zero, List.getElem?_cons_succ] at x0 x1 x2; clear hX1 hb1 hR1 hS1))
  have HR := hide (show Row tOp w1 (Old w1) A1 did from by rw [HDd.out]; exact HR1.out)
  have HBw := HB1
  rw [show (lastWs t.Ops).length = did.length from by rw [HDd.out]]
  have hcc : did.length = did.length := rfl
  clear HLs HFr HDd
  go_loopw [9, 11] (fun v i wr => ∃ k : Nat, k ≤ did.length ∧ i = .int .i64 k ∧ v = .int .i64 (seenK os did (m : Int) k) ∧ Hid (Below w1.heap.size w1 wr)) (fun _ i _ => did.length - (intOf i).toNat)
  case atStart => exact ⟨0, Nat.zero_le _, rfl, by rw [HZ.out], Below.refl _ _⟩
  case round =>
    obtain ⟨k, hk, rfl, rfl, hb⟩ := hrel
    have HBx := hide hb.out
    have HBq := hide (HBw.out.trans (hb.out.mono HBw.out.size))
    clear hb
    by_cases hlt : k < did.length
    · obtain ⟨b, off, hAe, hbS, d0, d1, d2⟩ := at_Op HR.out HBx.out hlt
      subst hAe
      have HS1 := hide (HS0.out k hlt)
      have hbd := HSb.out k
      generalize seenK os did (m : Int) k = sk at HS1 hbd ⊢
      generalize did[k] = o at d0 d1 d2 HS1
      obtain ⟨Kd, Ky, Vl⟩ := o
      dsimp only at d0 d1 d2 HS1
      by_cases hke : Ky = (m : Int)
      · subst hke
        obtain ⟨b3, off3, A3, c3, hBe, hb3S, y0, hs1, hs2, hs3⟩ := at_IntS HOs.out HBq.out hm
        subst hBe
        have HVr := hide (specVersion os[m] Vl A3 c3 wr.drew hol (hs3.mono (fun _ h => h) (fun _ _ => rfl)))
        have HS2 := hide (show seenK os did (m : Int) (k + 1) = max sk (verN7 os[m] Vl) by
          rw [HS1.out, if_pos rfl, verAt_nat hm rfl])
        have hvb := verN7_ge os[m] Vl
        generalize verN7 os[m] Vl = q at HVr HS2 hvb
        generalize os[m] = O at y0 hs1 HVr hol hvb
        have HBd := hide (show Below w1.heap.size w1 wr.drew from HBx.out.drew)
        clear hs3 HS1
        go_upto_region 9 with (fail)
        go_region_held3 (fun V => V.cell? ⟨b3, off3 + m, none⟩ = some (.slice A3 O.length c3) ∧ V.cell? ⟨b, off + k * 3 + 2, none⟩ = some (.int .i64 Vl) ∧ Below w1.heap.size w1 V)
          (first
            | ((try dsimp only); exact ⟨y0, d2, HBd.out⟩)
            | go_keep)
          ((go_at_call 98; refine HVr.out.mono ?_; rintro e w' ⟨rfl, rfl⟩))
        go_wp2_with fail
        go_roundw
        case rel => exact ⟨k + 1, by omega, by go_num, by rw [HS2.out], HBd.out⟩
        case measure => simp [intOf]; omega
      · have HS2 := hide (show seenK os did (m : Int) (k + 1) = sk by rw [HS1.out, if_neg hke])
        have hkb : (Ky == (m : Int)) = false := beq_eq_false_iff_ne.2 hke
        clear HS1 hke
        go_wp2_with fail
        go_roundw
        case rel => exact ⟨k + 1, by omega, by go_num, by rw [HS2.out], HBx.out⟩
        case measure => simp [intOf]; omega
    · obtain rfl : k = did.length := by omega
      go_wp2_with fail
      go_ret
      exact ⟨rfl, HBq.out⟩
set_option maxRecDepth 10000 in
set_option maxHeartbeats 4000000 in
theorem specSeen2 (t : Txn) (os : List (List Int)) (m : Nat) (B A : Option Addr) (c d : Nat) (w : World) (hm : m < os.length) (hmo : os.length ≤ 1048576) (hsz : ∀ o ∈ os, o.length ≤ 1048576) (hv : txnOk t = true) (hB : Row (tSlice tInt) w (Old w) B os) (hA : Row tOp w (Old w) A t.Ops) :
    Calls Tryd.prog 105 #[.agg #[.int .i64 t.Session, .slice A t.Ops.length c, .bool t.Done], .slice B os.length d, .int .i64 2, .int .i64 (m : Int)] w fun e w' => e = .returned (.int .i64 (seenK os (didOf 2 t) (m : Int) (didOf 2 t).length)) ∧ Below w.heap.size w w' := by
  have h6 := (txnOk_parts hv).2
  have hdd : didOf 2 t = firstR t.Ops := by unfold didOf; rw [if_pos rfl]
  have hdl := didOf_len 2 t h6
  have HB0 := hide ((Below.refl _ w).alloc (Nat.le_refl _) (.cells #[.int .i64 t.Session, .slice A t.Ops.length c, .bool t.Done] 42))
  have HX0 := hide (Blk.new w 42 #[.int .i64 t.Session, .slice A t.Ops.length c, .bool t.Done])
  have HLs := hide (fun (W : World) (hW : Below w.heap.size w W) => specLastWrites t A c W hv (hA.old hW))
  have HFr := hide (fun (W : World) (hW : Below w.heap.size w W) => specFirstReads t A c W hv (hA.old hW))
  have HDd := hide hdd
  have HS0 := hide (seenK_succ os (didOf 2 t) (m : Int))
  have HSb := hide (seenK_bd os (didOf 2 t) (m : Int) hsz)
  have HOs := hide hB
  obtain ⟨did, hdid⟩ : ∃ did, did = didOf 2 t := ⟨_, rfl⟩
  rw [← hdid] at HS0 HSb hdl HDd ⊢
  have hol := hsz _ (List.getElem_mem hm)
  have hz : seenK os did (m : Int) 0 = -1 := rfl
  have HZ := hide hz
  have hq1 : did.length ≤ 9223372036854775807 := by omega
  have hq3 : os.length ≤ 9223372036854775807 := by omega
  have hm0 : (0 : Int) ≤ (m : Int) := by omega
  clear hdd hA hB hdid hsz hz hv
  go_enter Tryd.func105, Tryd.ntmps105
  go_wp2_with (first
    | (go_at_call 149; refine (HLs.out _ HB0.out).mono ?_; rintro e w1 ⟨v1, rfl, hS1, hb1⟩; obtain ⟨A1, c1, rfl, h11, h12, hR1⟩ := hS1.sl; have HB1 := hide (HB0.out.trans (hb1.mono HB0.out.size)); have HR1 := hide (hR1.mono (S' := Old w1) (fun b h => h.2) (fun _ _ => rfl)); have hX1 := HX0.out.below hb1 HX0.out.lt; have x0 := hX1.cell 0; have x1 := hX1.cell 1; have x2 := hX1.cell 2; simp only [List.getElem?_toArray, List.getElem?_cons_zero, List.getElem?_cons_succ] at x0 x1 x2; clear hX1 hb1 hR1 hS1)
    | (go_at_call 104; refine (HFr.out _ HB1.out).mono ?_; rintro e w2 ⟨v2, rfl, hS2, hb2⟩; obtain ⟨A2, c2, rfl, h21, h22, hR2⟩ := hS2.sl; have HB2 := hide (HB1.out.trans (hb2.mono HB1.out.size)); have HR2 := hide (hR2.mono (S' := Old w2) (fun b h => h.2) (fun _ _ => rfl)); clear hb2 hR2 hS2))
  have HR := hide (show Row tOp w2 (Old w2) A2 did from by rw [HDd.out]; exact HR2.out)
  have HBw := HB2
  rw [show (firstR t.Ops).length = did.length from by rw [HDd.out]]
  have hcc : did.length = did.length := rfl
  clear HLs HFr HDd
  go_loopw [9, 11] (fun v i wr => ∃ k : Nat, k ≤ did.length ∧ i = .int .i64 k ∧ v = .int .i64 (seenK os did (m : Int) k) ∧ Hid (Below w2.heap.size w2 wr)) (fun _ i _ => did.length - (intOf i).toNat)
  case atStart => exact ⟨0, Nat.zero_le _, rfl, by rw [HZ.out], Below.refl _ _⟩
  case round =>
    obtain ⟨k, hk, rfl, rfl, hb⟩ := hrel
    have HBx := hide hb.out
    have HBq := hide (HBw.out.trans (hb.out.mono HBw.out.size))
    clear hb
    by_cases hlt : k < did.length
    · obtain ⟨b, off, hAe, hbS, d0, d1, d2⟩ := at_Op HR.out HBx.out hlt
      subst hAe
      have HS1 := hide (HS0.out k hlt)
      have hbd := HSb.out k
      generalize seenK os did (m : Int) k = sk at HS1 hbd ⊢
      generalize did[k] = o at d0 d1 d2 HS1
      obtain ⟨Kd, Ky, Vl⟩ := o
      dsimp only at d0 d1 d2 HS1
      by_cases hke : Ky = (m : Int)
      · subst hke
        obtain ⟨b3, off3, A3, c3, hBe, hb3S, y0, hs1, hs2, hs3⟩ := at_IntS HOs.out HBq.out hm
        subst hBe
        have HVr := hide (specVersion os[m] Vl A3 c3 wr.drew hol (hs3.mono (fun _ h => h) (fun _ _ => rfl)))
        have HS2 := hide (show seenK os did (m : Int) (k + 1) = max sk (verN7 os[m] Vl) by
          rw [HS1.out, if_pos rfl, verAt_nat hm rfl])
        have hvb := verN7_ge os[m] Vl
        generalize verN7 os[m] Vl = q at HVr HS2 hvb
        generalize os[m] = O at y0 hs1 HVr hol hvb
        have HBd := hide (show Below w2.heap.size w2 wr.drew from HBx.out.drew)
        clear hs3 HS1
        go_upto_region 9 with (fail)
        go_region_held3 (fun V => V.cell? ⟨b3, off3 + m, none⟩ = some (.slice A3 O.length c3) ∧ V.cell? ⟨b, off + k * 3 + 2, none⟩ = some (.int .i64 Vl) ∧ Below w2.heap.size w2 V)
          (first
            | ((try dsimp only); exact ⟨y0, d2, HBd.out⟩)
            | go_keep)
          ((go_at_call 98; refine HVr.out.mono ?_; rintro e w' ⟨rfl, rfl⟩))
        go_wp2_with fail
        go_roundw
        case rel => exact ⟨k + 1, by omega, by go_num, by rw [HS2.out], HBd.out⟩
        case measure => simp [intOf]; omega
      · have HS2 := hide (show seenK os did (m : Int) (k + 1) = sk by rw [HS1.out, if_neg hke])
        have hkb : (Ky == (m : Int)) = false := beq_eq_false_iff_ne.2 hke
        clear HS1 hke
        go_wp2_with fail
        go_roundw
        case rel => exact ⟨k + 1, by omega, by go_num, by rw [HS2.out], HBx.out⟩
        case measure => simp [intOf]; omega
    · obtain rfl : k = did.length := by omega
      go_wp2_with fail
      go_ret
      exact ⟨rfl, HBq.out⟩
set_option maxRecDepth 10000 in
set_option maxHeartbeats 1000000 in
theorem ownRowsInt (xs : List (List Int)) (A : Option Addr) (c : Nat) (w : World) (hm : xs.length ≤ 1048576) (hn : ∀ x ∈ xs, x.length ≤ 1048576) (hA : Row (tSlice tInt) w (Old w) A xs) :
    Calls Tryd.prog 103 #[.slice A xs.length c] w fun e w' => ∃ v, e = .returned v ∧ Own (tIntSO 3) 30 w' (New w w') xs v ∧ Below w.heap.size w w' := by
  obtain ⟨i0, hi, hz0, hz1, hz2⟩ := info_parts infoInt_
  obtain ⟨i1, hi1, hz01, hz11, hz21⟩ := info_parts infoIntS_
  have HA := hide hA
  have HN := hide hn
  clear hA hn
  go_enter Tryd.func103, Tryd.ntmps103
  go_wp2
  go_loopw [3, 4] (fun v i wr => ∃ k : Nat, k ≤ xs.length ∧ i = .int .i64 k ∧ Hid (Own (tIntSO 3) 30 wr (fun b => w.heap.size ≤ b ∧ Old wr b) (xs.take k) v) ∧ Below w.heap.size w wr) (fun _ i _ => xs.length - (intOf i).toNat)
  case atStart => exact ⟨0, Nat.zero_le _, rfl, Own.empty w (fun b => w.heap.size ≤ b) (Nat.le_refl _), (Below.refl _ _).alloc (Nat.le_refl _) _⟩
  case round =>
    obtain ⟨k, hk, rfl, hO, hb⟩ := hrel
    by_cases hlt : k < xs.length
    · obtain ⟨b, off, A2, c2, rfl, hbS, c0, hi1', hi2, hi3⟩ := at_IntS HA.out hb hlt
      have HS := hide (take_snoc' xs k hlt)
      have HB := hide hb
      have HL := hide (own_lt (B := wr.heap.size) hO.out (fun b h => h.2))
      have hnl := HN.out _ (List.getElem_mem hlt)
      have HO := hide hO.out
      have HOe := hide (Own.empty (T := tInt) (e := 3) wr (fun b => wr.heap.size ≤ b) (Nat.le_refl _))
      have HRy := hide ((hi3.old ((Below.refl _ wr).alloc (Nat.le_refl _) (.cells #[] 3))).anyInt)
      have c00 := (Below.cell (p := ⟨b, off + k, none⟩) ((Below.refl _ wr).alloc (Nat.le_refl _) (.cells #[] 3)) (Nat.lt_of_lt_of_le hbS hb.size)).trans c0
      have hbz : b < wr.heap.size := Nat.lt_of_lt_of_le hbS hb.size
      generalize xs[k] = x at c0 c00 hnl HS HRy
      clear hi1' hi2 hi3 hO hb
      have hlk : (xs.take k).length ≤ 1048576 := by rw [List.length_take]; omega
      generalize xs.take k = pre at HO HS hlk HL
      go_wp2_with (first
        | (at_builtin; refine wpList_cat tInt rfl (.tmp 13) (.tmp 17) 30 rfl 3 i0 _ 8 Tryd.underlying30 hi hz0 hz1 hz2 rfl (by decide) (fun b => wr.heap.size ≤ b) (fun _ => False) [] x _ rfl HOe.out _ _ _ rfl rfl HRy.out (fun _ h => h.elim) (fun b hb => Nat.le_trans (by simp) hb) (by skip; simp only [maxLen, List.length_nil]; omega) (by skip; simp only [List.length_nil]; omega) ?_; intro v3 w4 hO_ hK_; obtain ⟨A8, c8, rfl, _, _, _⟩ := hO_.sl; have HO4 := hide hO_; have HB4 := hide (show Below wr.heap.size wr w4 from ((Only.of_alloc (K := fun b => wr.heap.size ≤ b) wr (.cells #[] 3)).trans hK_).below); have HO5 := hide (HO.out.onlyBelow HB4.out); clear hO_ hK_)
        | (at_builtin; refine wpList_put (tIntSO 3) rfl (.tmp 12) (.tmp 19) 54 rfl 30 i1 _ 24 Tryd.underlying54 hi1 hz01 hz11 hz21 rfl (by decide) (fun b => w.heap.size ≤ b) (fun b => wr.heap.size ≤ b ∧ Old w4 b) pre x [.slice A8 x.length c8] _ rfl HO5.out 1 rfl ⟨_, rfl, HO4.out⟩ (fun b h => ⟨Nat.le_trans HB.out.size h.1, h.2, fun e => by have := HL.out b e; have := h.1; omega⟩) (fun b hb => Nat.le_trans (Nat.le_trans HB.out.size HB4.out.size) hb) (by simp only [maxLen]; omega) (by omega) ?_; intro v7 w7 hO_ hK_; have HO7 := hide hO_; have HK7 := hide hK_; clear hO_ hK_))
      go_roundw
      case rel => exact ⟨k + 1, by omega, by go_num, by rw [HS.out]; exact HO7.out, below_only (HB.out.trans (HB4.out.mono HB.out.size)) HK7.out (Nat.le_trans HB.out.size HB4.out.size) (fun _ h => h)⟩
      case measure => simp [intOf]; omega
    · obtain rfl : k = xs.length := by omega
      have HS := hide (show xs.take xs.length = xs from List.take_length)
      go_wp2
      go_ret
      exact ⟨_, rfl, by have := hO.out; rw [HS.out] at this; exact this, hb⟩
theorem specSeen (t : Txn) (os : List (List Int)) (p : Int) (hp : p = 1 ∨ p = 2) (m : Nat) (B A : Option Addr) (c d : Nat) (w : World) (hm : m < os.length) (hmo : os.length ≤ 1048576) (hsz : ∀ o ∈ os, o.length ≤ 1048576) (hv : txnOk t = true) (hB : Row (tSlice tInt) w (Old w) B os) (hA : Row tOp w (Old w) A t.Ops) :
    Calls Tryd.prog 105 #[.agg #[.int .i64 t.Session, .slice A t.Ops.length c, .bool t.Done], .slice B os.length d, .int .i64 p, .int .i64 (m : Int)] w fun e w' => e = .returned (.int .i64 (seenK os (didOf p t) (m : Int) (didOf p t).length)) ∧ Below w.heap.size w w' := by
  rcases hp with rfl | rfl
  · exact specSeen1 t os m B A c d w hm hmo hsz hv hB hA
  · exact specSeen2 t os m B A c d w hm hmo hsz hv hB hA
theorem any_take_succ {α : Type} (p : α → Bool) (xs : List α) (k : Nat) (hk : k < xs.length) : (xs.take (k + 1)).any p = ((xs.take k).any p || p xs[k]) := by
  rw [List.take_succ_eq_append_getElem hk, List.any_append]
  simp
set_option maxRecDepth 10000 in
set_option maxHeartbeats 8000000 in
theorem specSessionBreaks (xs : List Txn) (os : List (List Int)) (p : Int) (A B : Option Addr) (c d : Nat) (w : World) (hm : xs.length ≤ 1048576) (hn6 : ∀ x ∈ xs, x.Ops.length ≤ 1048576) (ht : opsN xs ≤ 1048576) (hmo : os.length ≤ 1048576) (hsz : ∀ o ∈ os, o.length ≤ 1048576) (hA : Row tTxn w (Old w) A xs) (hB : Row (tSlice tInt) w (Old w) B os) :
    Calls Tryd.prog 44 #[.slice A xs.length c, .slice B os.length d, .int .i64 p] w fun e w' => ∃ v, e = .returned v ∧ Sl (tSlice tInt) w' (New w w') (brkR xs os p) v ∧ Below w.heap.size w w' := by
  obtain ⟨i0, hi, hz0, hz1, hz2⟩ := info_parts infoIntS_
  have HOw := hide (ownTxnList xs A c w hm hn6 hA)
  have HOr := hide (fun (W : World) (hW : Below w.heap.size w W) => ownRowsInt os B d W hmo hsz (hB.old hW))
  have HOv := hide (fun (W : World) (A1 B1 : Option Addr) (c1 d1 : Nat) (h1 : Row tTxn W (Old W) A1 xs) (h2 : Row (tSlice tInt) W (Old W) B1 os) => specOrdersValid xs os A1 B1 c1 d1 W (by simp only [maxLen]; omega) ht hmo hsz h1 h2)
  have HR := hide (show brkR xs os p = if ordB xs os && inR p 1 2 then brkK xs os p xs.length else [] from rfl)
  have HSz := hide hsz
  clear hA hB hsz ht hn6
  go_enter Tryd.func44, Tryd.ntmps44
  go_upto_region 4 with (first
    | (go_at_call 51; refine HOw.out.mono ?_; rintro e w1 ⟨v1, rfl, hO1, hb1⟩; obtain ⟨A1, c1, rfl, _, _, hr1⟩ := hO1.weakTxn.sl; have HA1 := hide (hr1.mono (S' := Old w1) (fun b h => h.2) (fun _ _ => rfl)); have HB1 := hide hb1; clear hb1 hO1 hr1)
    | (go_at_call 103; refine (HOr.out _ HB1.out).mono ?_; rintro e w2 ⟨v2, rfl, hO2, hb2⟩; obtain ⟨B1, dB, rfl, _, _, hr2⟩ := hO2.weakIntS.sl; have HA2 := hide (HA1.out.old hb2); have HBB := hide (hr2.mono (S' := Old w2) (fun b h => h.2) (fun _ _ => rfl)); have HB2 := hide (HB1.out.trans (hb2.mono HB1.out.size)); clear hb2 hO2 hr2))
  clear HOw HOr HA1 HB1
  have HBe := hide ((Below.refl _ w2).alloc (Nat.le_refl _) (.cells #[] 30))
  have HO0 := hide (Own.empty (T := tSlice tInt) (e := 30) w2 (fun b => w2.heap.size ≤ b) (Nat.le_refl _))
  have HC := hide (HOv.out (w2.alloc (.cells #[] 30)) A1 B1 c1 dB (HA2.out.old HBe.out) (HBB.out.old HBe.out))
  clear HOv
  cases ho : ordB xs os with
  | false =>
    rw [ho] at HC HR
    clear ho
    go_wp2_with (go_at_call 97; refine HC.out.mono ?_; rintro e w4 ⟨rfl, hb4⟩; have HB4 := hide hb4; clear hb4)
    go_ret
    refine ⟨_, rfl, ?_, HB2.out.trans ((HBe.out.trans (HB4.out.mono HBe.out.size)).mono HB2.out.size)⟩
    rw [HR.out]
    exact (HO0.out.onlyBelow HB4.out).sl.mono (fun b h => ⟨Nat.le_trans HB2.out.size h.1, h.2⟩) (fun _ _ => rfl)
  | true =>
    cases hp : inR p 1 2 with
    | false =>
      rw [ho] at HC HR
      rw [hp] at HR
      clear ho
      go_wp2_with (first
        | (go_at_call 97; refine HC.out.mono ?_; rintro e w4 ⟨rfl, hb4⟩; have HB4 := hide hb4; clear hb4)
        | (go_at_call 53; refine (l1In _ _ _ _).mono ?_; rintro e w' ⟨rfl, rfl⟩; rw [hp]))
      go_ret
      refine ⟨_, rfl, ?_, HB2.out.trans ((HBe.out.trans (HB4.out.mono HBe.out.size)).mono HB2.out.size)⟩
      rw [HR.out]
      exact (HO0.out.onlyBelow HB4.out).sl.mono (fun b h => ⟨Nat.le_trans HB2.out.size h.1, h.2⟩) (fun _ _ => rfl)
    | true =>
      have hpr := inR_iff.1 hp
      have hp12 : p = 1 ∨ p = 2 := by omega
      have hv := ord_hist ho
      have h6 : xs.length ≤ 6 := (histV_parts hv).1
      have HTx := hide (histV_parts hv).2
      have hl3 : 3 ≤ os.length := by have := ord_len ho; omega
      have HP12 := hide hp12
      rw [ho, hp] at HR
      rw [ho] at HC
      have HR := hide (show brkR xs os p = brkK xs os p xs.length from HR.out)
      clear ho hv hpr hp12
      go_wp2_with (first
        | (go_at_call 97; refine HC.out.mono ?_; rintro e w4 ⟨rfl, hb4⟩; have HB4 := hide hb4; clear hb4)
        | (go_at_call 53; refine (l1In _ _ _ _).mono ?_; rintro e w' ⟨rfl, rfl⟩; rw [hp]))
      have HO4 := hide (HO0.out.onlyBelow HB4.out)
      have HB24 := hide (HBe.out.trans (HB4.out.mono HBe.out.size))
      have hq : xs.length ≤ 9223372036854775807 := by omega
      have hqo : os.length ≤ 9223372036854775807 := by omega
      clear HO0 HBe HB4 HC hp
      go_loopw [7, 8, 9, 10, 11, 12, 13] (fun v i _ _ _ _ _ wr => ∃ k : Nat, k ≤ xs.length ∧ i = .int .i64 k ∧ Hid (Own (tSlice tInt) 30 wr (fun b => w2.heap.size ≤ b ∧ Old wr b) (brkK xs os p k) v) ∧ Hid (Below w2.heap.size w2 wr)) (fun _ i _ _ _ _ _ _ => xs.length - (intOf i).toNat)
      case atStart => exact ⟨0, Nat.zero_le _, rfl, HO4.out, HB24.out⟩
      case round =>
        obtain ⟨k, hk, rfl, hO, hb⟩ := hrel
        have HO := hide hO.out; have HBr := hide hb.out
        clear hO hb HO4 HB24
        by_cases hlt : k < xs.length
        · have hk1 : IntKind.i64.wrap ((k : Int) + 1) = ((k + 1 : Nat) : Int) := by rw [IntKind.wrap_i64]; omega
          obtain ⟨k1, hk1e⟩ : ∃ k1, k1 = k + 1 := ⟨_, rfl⟩
          rw [← hk1e] at hk1
          have HBl := hide (brkK_len xs os p k).1
          have HKs := hide (show brkK xs os p (k + 1) = brkK xs os p k ++ rowK xs os p k xs.length from rfl)
          have HK0 := hide (rowK_low xs os p k k1 (by omega))
          obtain ⟨PRE, hPRE⟩ : ∃ PRE, PRE = brkK xs os p k := ⟨_, rfl⟩
          rw [← hPRE] at HO HBl HKs
          have hpl : PRE.length ≤ 36 := Nat.le_trans HBl.out (Nat.mul_le_mul (show k ≤ 6 by omega) h6)
          clear hPRE
          go_upto_region 10 with (fail)
          have hk1l : k1 ≤ xs.length := by omega
          have hkk1 : k < k1 := by omega
          have HKe := hide hk1e
          clear hk1 hk1e
          go_loopw [7, 9, 10, 11, 12, 13] (fun v i _ _ _ _ wr => ∃ j : Nat, k < j ∧ j ≤ xs.length ∧ i = .int .i64 j ∧ Hid (Own (tSlice tInt) 30 wr (fun b => w2.heap.size ≤ b ∧ Old wr b) (PRE ++ rowK xs os p k j) v) ∧ Hid (Below w2.heap.size w2 wr)) (fun _ i _ _ _ _ _ => xs.length - (intOf i).toNat)
          case atStart => exact ⟨k1, hkk1, hk1l, by rw [HKe.out]; go_num, by rw [HK0.out, List.append_nil]; exact HO.out, HBr.out⟩
          case round =>
            obtain ⟨j, hkj, hj, rfl, hO2, hb2⟩ := hrel
            obtain ⟨wj, rfl⟩ : ∃ wj : World, wj = wr := ⟨wr, rfl⟩
            have HO2 := hide hO2.out; have HBx := hide hb2.out
            clear hO2 hb2 HO HBr
            by_cases hlt2 : j < xs.length
            · have HRl := hide (rowK_len xs os p k j).1
              have HRj := hide (show rowK xs os p k (j + 1) = rowK xs os p k j ++ (if xs[k].Done && (xs[j].Done && (xs[k].Session == xs[j].Session && brkB os (didOf p xs[k]) (firstR xs[j].Ops))) then [[(k : Int), (j : Int)]] else []) by
                rw [rowK, decide_eq_true hkj, Bool.true_and]
                unfold brkP brkS
                rw [doneAt_nat xs k hlt, doneAt_nat xs j hlt2, sesAt_nat xs k hlt, sesAt_nat xs j hlt2, txAt_nat xs k hlt, txAt_nat xs j hlt2])
              have HTk := hide (HTx.out _ (List.getElem_mem hlt))
              have HTj := hide (HTx.out _ (List.getElem_mem hlt2))
              obtain ⟨b, off, A3, c3, hAe, hbS, g0, g1, g3, _, _, hj3⟩ := at_Txn HA2.out HBx.out hlt
              subst hAe
              obtain ⟨b', off', A4, c4, hAe, _, e0, e1, e3, _, _, hj4⟩ := at_Txn HA2.out HBx.out hlt2
              obtain ⟨rfl, rfl⟩ : b = b' ∧ off = off' := by simpa using hAe
              have HJ4 := hide hj4
              have HDr := hide (fun n => below_drewN (Below.refl wj.heap.size wj) n)
              clear hAe hj3 hj4
              cases hd1 : xs[k].Done with
              | false =>
                have HG := hide (show PRE ++ rowK xs os p k (j + 1) = PRE ++ rowK xs os p k j by rw [HRj.out, hd1, Bool.false_and, if_neg (by decide), List.append_nil])
                rw [hd1] at g3
                clear hd1 HRj
                go_upto_region 12 with (fail)
                go_quiet (fail)
                go_wp2_with fail
                go_roundw
                case rel => exact ⟨j + 1, by omega, by omega, by go_num, by rw [HG.out]; exact HO2.out.onlyBelow (HDr.out _), below_drewN HBx.out _⟩
                case measure => simp [intOf]; omega
              | true =>
                cases hd2 : xs[j].Done with
                | false =>
                  have HG := hide (show PRE ++ rowK xs os p k (j + 1) = PRE ++ rowK xs os p k j by rw [HRj.out, hd1, hd2, Bool.true_and, Bool.false_and, if_neg (by decide), List.append_nil])
                  rw [hd1] at g3
                  rw [hd2] at e3
                  clear hd1 hd2 HRj
                  go_upto_region 12 with (fail)
                  go_quiet (fail)
                  go_wp2_with fail
                  go_roundw
                  case rel => exact ⟨j + 1, by omega, by omega, by go_num, by rw [HG.out]; exact HO2.out.onlyBelow (HDr.out _), below_drewN HBx.out _⟩
                  case measure => simp [intOf]; omega
                | true =>
                  cases hse : (xs[k].Session == xs[j].Session) with
                  | false =>
                    have HG := hide (show PRE ++ rowK xs os p k (j + 1) = PRE ++ rowK xs os p k j by rw [HRj.out, hd1, hd2, hse, Bool.true_and, Bool.true_and, Bool.false_and, if_neg (by decide), List.append_nil])
                    have hsn : (xs[k].Session != xs[j].Session) = true := by rw [bne, hse]; rfl
                    rw [hd1] at g3
                    rw [hd2] at e3
                    clear hd1 hd2 HRj
                    go_upto_region 12 with (fail)
                    go_quiet (fail)
                    go_wp2_with fail
                    go_roundw
                    case rel => exact ⟨j + 1, by omega, by omega, by go_num, by rw [HG.out]; exact HO2.out.onlyBelow (HDr.out _), below_drewN HBx.out _⟩
                    case measure => simp [intOf]; omega
                  | true =>
                    have HRj := hide (show rowK xs os p k (j + 1) = rowK xs os p k j ++ (if brkB os (didOf p xs[k]) (firstR xs[j].Ops) then [[(k : Int), (j : Int)]] else []) by
                      rw [HRj.out, hd1, hd2, hse, Bool.true_and, Bool.true_and, Bool.true_and])
                    have hsn : (xs[k].Session != xs[j].Session) = false := by rw [bne, hse]; rfl
                    rw [hd1] at g3
                    rw [hd2] at e3
                    clear hd1 hd2
                    go_upto_region 12 with (fail)
                    go_quiet (fail)
                    have HBd := hide (show Below w2.heap.size w2 (wj.drewN nq) from below_drewN HBx.out _)
                    have HOd := hide (show Own (tSlice tInt) 30 (wj.drewN nq) (fun b => w2.heap.size ≤ b ∧ Old (wj.drewN nq) b) (PRE ++ rowK xs os p k j) _ from HO2.out.onlyBelow (HDr.out _))
                    generalize wj.drewN nq = w5 at HBd HOd ⊢
                    clear g0 g1 g3 e0 e1 e3 hsn hse HJ4 HDr HO2 HBx
                    obtain ⟨b', off', A4, c4, hAe, _, e0, e1, e3, _, _, hj4⟩ := at_Txn HA2.out HBd.out hlt2
                    obtain ⟨rfl, rfl⟩ : b = b' ∧ off = off' := by simpa using hAe
                    have HFr := hide (specFirstReads xs[j] A4 c4 w5 HTj.out hj4)
                    have HRm := hide (fun o (ho : o ∈ firstR xs[j].Ops) => (txnOk_parts HTj.out).1 o (firstR_mem _ _ o ho))
                    have hrl : (firstR xs[j].Ops).length ≤ 6 := Nat.le_trans (firstRs_len _ _) (txnOk_parts HTj.out).2
                    generalize firstR xs[j].Ops = rs at HFr HRm hrl HRj
                    have hqr : rs.length ≤ 9223372036854775807 := by omega
                    clear hAe hj4
                    go_wp2_with (go_at_call 104; refine HFr.out.mono ?_; rintro e w6 ⟨v6, rfl, hO6, hb6⟩; obtain ⟨A6, c6, rfl, _, _, hr6⟩ := hO6.sl; have HR6 := hide (hr6.mono (S' := Old w6) (fun b h => h.2) (fun _ _ => rfl)); have HB6 := hide (HBd.out.trans (hb6.mono HBd.out.size)); have HO6 := hide (HOd.out.onlyBelow hb6); clear hO6 hb6 hr6)
                    clear HFr HOd HBd e0 e1 e3
                    go_loopw [11, 12, 13] (fun v i _ wr => ∃ l : Nat, l ≤ rs.length ∧ i = .int .i64 l ∧ v = .bool ((rs.take l).any (brkO os (didOf p xs[k]))) ∧ Hid (Below w6.heap.size w6 wr)) (fun _ i _ _ => rs.length - (intOf i).toNat)
                    case atStart => exact ⟨0, Nat.zero_le _, rfl, rfl, Below.refl _ _⟩
                    case round =>
                      obtain ⟨l, hl, rfl, rfl, hb3⟩ := hrel
                      obtain ⟨wl, rfl⟩ : ∃ wl : World, wl = wr := ⟨wr, rfl⟩
                      have HBy := hide hb3.out
                      have HBz := hide (HB6.out.trans (hb3.out.mono HB6.out.size))
                      clear hb3
                      by_cases hlt3 : l < rs.length
                      · obtain ⟨b6, off6, hAe, hb6S, d0, d1, d2⟩ := at_Op HR6.out HBy.out hlt3
                        subst hAe
                        obtain ⟨m, hm3, hkm⟩ := key_nat (HRm.out _ (List.getElem_mem hlt3))
                        have hmo2 : m < os.length := by omega
                        have HV := hide (verAt_nat hmo2 hkm)
                        have HSn := hide (any_take_succ (brkO os (didOf p xs[k])) rs l hlt3)
                        have HOs := hide (brkO_seen os (didOf p xs[k]) rs[l])
                        have hol := HSz.out _ (List.getElem_mem hmo2)
                        have HAt := hide (fun (W : World) (hW : Below w6.heap.size w6 W) => (at_Op HR6.out hW hlt3))
                        have HSb := hide (seenK_bd os (didOf p xs[k]) (m : Int) HSz.out (didOf p xs[k]).length)
                        generalize (rs.take l).any (brkO os (didOf p xs[k])) = Bv at HSn ⊢
                        generalize rs[l] = o at d0 d1 d2 hkm HV HSn HOs HAt
                        generalize brkO os (didOf p xs[k]) o = Bo at HSn HOs
                        obtain ⟨Kd, Ky, Vl⟩ := o
                        dsimp only at d0 d1 d2 hkm HV HOs HAt
                        subst hkm
                        generalize verAt os ⟨Kd, m, Vl⟩ = q at HV HOs
                        generalize hsk : seenK os (didOf p xs[k]) (m : Int) (didOf p xs[k]).length = sk at HOs HSb
                        have HSk := hide hsk
                        obtain ⟨b7, off7, A7, c7, hBe, hb7S, y0, hs1, hs2, hs3⟩ := at_IntS HBB.out HBz.out hmo2
                        subst hBe
                        have HVr := hide (fun z => specVersion os[m] Vl A7 c7 (wl.drewN z) hol (hs3.mono (fun _ h => h) (fun _ _ => rfl)))
                        rw [← HV.out] at HVr
                        generalize os[m] = O at y0 hs1 hol HVr HV
                        have hm0 : (0 : Int) ≤ (m : Int) := by omega
                        clear hs3 hsk
                        go_upto_region 18 with (fail)
                        go_quiet ((go_at_call 98; exact Calls.quiet_of_same ((HVr.out _).mono (fun _ _ h => ⟨h.1, h.2.symm⟩))))
                        have HB8 := hide (show Below w6.heap.size w6 (wl.drewN nq) from below_drewN HBy.out _)
                        generalize wl.drewN nq = w8 at HB8 ⊢
                        clear d0 d1 d2 y0 HVr HBy HBz hs1 hs2 HV hol
                        go_upto_region 19 with (fail)
                        cases Bv with
                        | true =>
                          have HG := hide (show (rs.take (l + 1)).any (brkO os (didOf p xs[k])) = true by rw [HSn.out]; rfl)
                          go_quiet (fail)
                          go_wp2_with fail
                          go_roundw
                          case rel => exact ⟨l + 1, by omega, by go_num, by rw [HG.out], below_drewN HB8.out _⟩
                          case measure => simp [intOf]; omega
                        | false =>
                          by_cases hq0 : 0 ≤ q
                          · have hqd : decide (q ≥ 0) = true := decide_eq_true hq0
                            have HG := hide (show (rs.take (l + 1)).any (brkO os (didOf p xs[k])) = decide (q < sk) by rw [HSn.out, HOs.out, decide_eq_true hq0]; rfl)
                            clear hq0
                            have hbA := HB6.out.trans (HB8.out.mono HB6.out.size)
                            obtain ⟨b', off', A9, c9, hAe, hbS9, g0, g1, g3, _, _, hj9⟩ := at_Txn HA2.out hbA hlt
                            obtain ⟨rfl, rfl⟩ : b = b' ∧ off = off' := by simpa using hAe
                            obtain ⟨b', off', hAe2, hb6S, d0, d1, d2⟩ := HAt.out w8 HB8.out
                            obtain ⟨rfl, rfl⟩ : b6 = b' ∧ off6 = off' := by simpa using hAe2
                            have HBd := hide hbA.drew
                            have HCs := hide (specSeen xs[k] os p HP12.out m _ A9 c9 dB w8.drew hmo2 hmo HSz.out HTk.out (HBB.out.old hbA.drew) (hj9.old (Below.refl _ w8).drew))
                            have hz1 : b < w8.heap.size := Nat.lt_of_lt_of_le hbS9 hbA.size
                            have hz6 : b6 < w8.heap.size := Nat.lt_of_lt_of_le hb6S HB8.out.size
                            rw [HSk.out] at HCs
                            clear hbA hj9 hAe hAe2 hbS9
                            go_region_held3 (fun V => V.cell? ⟨b, off + k * 3, none⟩ = some (.int .i64 xs[k].Session) ∧ V.cell? ⟨b, off + k * 3 + 1, none⟩ = some (.slice A9 xs[k].Ops.length c9) ∧ V.cell? ⟨b, off + k * 3 + 2, none⟩ = some (.bool xs[k].Done) ∧ V.cell? ⟨b6, off6 + l * 3 + 1, none⟩ = some (.int .i64 m) ∧ Below w6.heap.size w6 V)
                              (first
                                | ((try dsimp only); exact ⟨g0, g1, g3, d1, HB8.out.drew⟩)
                                | ((try dsimp only); exact ⟨(HB9.out.cell (p := ⟨b, off + k * 3, none⟩) hz1).trans g0, (HB9.out.cell (p := ⟨b, off + k * 3 + 1, none⟩) hz1).trans g1, (HB9.out.cell (p := ⟨b, off + k * 3 + 2, none⟩) hz1).trans g3, (HB9.out.cell (p := ⟨b6, off6 + l * 3 + 1, none⟩) hz6).trans d1, HB10.out⟩)
                                | go_keep)
                              ((go_at_call 105; refine HCs.out.mono ?_; rintro e w9 ⟨rfl, hb9⟩; have HB9 := hide ((Below.refl _ w8).drew.trans hb9); have HB10 := hide (HB8.out.trans (HB9.out.mono HB8.out.size)); clear hb9))
                            go_wp2_with fail
                            go_roundw
                            case rel => exact ⟨l + 1, by omega, by go_num, by rw [HG.out], HB10.out⟩
                            case measure => simp [intOf]; omega
                          · have hqd : decide (q ≥ 0) = false := decide_eq_false hq0
                            have HG := hide (show (rs.take (l + 1)).any (brkO os (didOf p xs[k])) = false by rw [HSn.out, HOs.out, decide_eq_false hq0]; rfl)
                            clear hq0
                            go_quiet (fail)
                            go_wp2_with fail
                            go_roundw
                            case rel => exact ⟨l + 1, by omega, by go_num, by rw [HG.out], below_drewN HB8.out _⟩
                            case measure => simp [intOf]; omega
                      · obtain rfl : l = rs.length := by omega
                        have HBk := hide (show (rs.take rs.length).any (brkO os (didOf p xs[k])) = brkB os (didOf p xs[k]) rs by rw [List.take_length]; rfl)
                        rw [HBk.out]
                        have HOl := hide (HO6.out.onlyBelow HBy.out)
                        cases hB : brkB os (didOf p xs[k]) rs with
                        | false =>
                          have HG := hide (show PRE ++ rowK xs os p k (j + 1) = PRE ++ rowK xs os p k j by rw [HRj.out, hB, if_neg (by decide), List.append_nil])
                          clear hB HBk
                          go_wp2_with fail
                          go_roundw
                          case rel => exact ⟨j + 1, by omega, by omega, by go_num, by rw [HG.out]; exact HOl.out, HBz.out⟩
                          case measure => simp [intOf]; omega
                        | true =>
                          have HG := hide (show PRE ++ rowK xs os p k (j + 1) = (PRE ++ rowK xs os p k j) ++ [[(k : Int), (j : Int)]] by rw [HRj.out, hB, if_pos rfl, List.append_assoc])
                          have hpl2 : (PRE ++ rowK xs os p k j).length ≤ 48 := by rw [List.length_append]; have := HRl.out; omega
                          generalize PRE ++ rowK xs os p k j = CUR at HOl HG hpl2
                          have HOw := hide (HOl.out.onlyBelow ((Below.refl _ wl).alloc (Nat.le_refl _) (.cells #[.int .i64 k, .int .i64 j] 3)))
                          have HLt := hide (own_lt (B := wl.heap.size) HOl.out (fun b h => h.2))
                          have HHp := hide (hold_pair wl (k : Int) (j : Int))
                          have HZl := hide HBz.out.size
                          clear hB HBk
                          go_wp2_with (at_builtin; refine wpList_put (tSlice tInt) rfl (.tmp 117) (.tmp 121) 54 rfl 30 i0 _ 24 Tryd.underlying54 hi hz0 hz1 hz2 rfl (by decide) (fun b => w2.heap.size ≤ b) (fun x => x = wl.heap.size) CUR [(k : Int), (j : Int)] [.slice (some ⟨wl.heap.size, 0, none⟩) 2 2] _ rfl HOw.out 1 (by rw [World.size_alloc]; rfl) ⟨_, rfl, HHp.out.sl⟩ (fun x h => ⟨by have := HZl.out; omega, by subst h; simp [Old], fun e => by have := HLt.out x e; omega⟩) (fun x hx => by have := HZl.out; simp at hx; omega) (by simp only [maxLen]; omega) (by omega) ?_; intro v8 w8 hO_ hK_; have HO8 := hide hO_; have HK8 := hide hK_; clear hO_ hK_)
                          go_roundw
                          case rel => exact ⟨j + 1, by omega, by omega, by go_num, by rw [HG.out]; exact HO8.out, below_only (HBz.out.alloc HZl.out _) HK8.out (by have := HZl.out; simp; omega) (fun _ h => h)⟩
                          case measure => simp [intOf]; omega
            · obtain rfl : j = xs.length := by omega
              have HF := hide (show brkK xs os p (k + 1) = PRE ++ rowK xs os p k xs.length from HKs.out)
              go_wp2_with fail
              go_roundw
              case rel => exact ⟨k + 1, by omega, by go_num, by rw [HF.out]; exact HO2.out, HBx.out⟩
              case measure => simp [intOf]; omega
        · obtain rfl : k = xs.length := by omega
          have HF := hide HR.out
          go_wp2_with fail
          go_ret
          exact ⟨_, rfl, by rw [HF.out]; exact HO.out.sl.mono (fun b h => ⟨Nat.le_trans HB2.out.size h.1, h.2⟩) (fun _ _ => rfl), HB2.out.trans (HBr.out.mono HB2.out.size)⟩
end Go.Proofs.YtaaagoppecnmmaaDoor
