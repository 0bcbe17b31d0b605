/- The law FnSnapshotTwice: serial orders are schedules. -/
import Derived.Test.YtaaagoppecnmmaaGreatDoorDrawSer
import Derived.Test.YtaaagoppecnmmaaGreatDoorSameL
import Derived.Test.YtaaagoppecnmmaaGreatDoorSnapDup
import Derived.Test.YtaaagoppecnmmaaGreatDoorSerO
import Derived.Deep.RegionLaw
namespace Go.Proofs.YtaaagoppecnmmaaGreatDoor
open Go.RowKit
set_option linter.unusedVariables false
set_option linter.unusedSimpArgs false

theorem cOrd_left (a b : List Int) : ∀ k, k ≤ a.length → cOrd (a ++ b) k = cOrd a k
  | 0, _ => rfl
  | k + 1, hk => by
    rw [cOrd, cOrd, cOrd_left a b k (by omega), List.take_append_of_le_length (by omega), List.getD_eq_getElem?_getD, List.getD_eq_getElem?_getD, List.getElem?_append_left (by omega)]
theorem cOrd_dup (o : List Int) : o.Nodup → cOrd (dup o) (dup o).length = o := by
  refine snoc_ind (P := fun o => o.Nodup → cOrd (dup o) (dup o).length = o) (fun _ => rfl) (fun l x ih hn => ?_) o
  have h1 := (List.nodup_append.1 hn)
  have hx : x ∉ l := fun hm => h1.2.2 x hm x (List.mem_singleton.2 rfl) rfl
  have hd : dup (l ++ [x]) = dup l ++ [x, x] := dup_append l [x]
  have hc : (dup l).count x = 0 := by rw [dup_count, List.count_eq_zero.2 hx]
  rw [hd, List.length_append, show [x, x].length = 1 + 1 from rfl, ← Nat.add_assoc, cOrd, cOrd, cOrd_left _ _ _ (Nat.le_refl _), ih h1.1]
  have t1 : (dup l ++ [x, x]).take (dup l).length = dup l := by simp
  have t2 : (dup l ++ [x, x]).take ((dup l).length + 1) = dup l ++ [x] := by
    rw [List.take_append]; simp; exact List.take_of_length_le (by omega)
  have g1 : (dup l ++ [x, x]).getD (dup l).length 0 = x := by rw [List.getD_eq_getElem?_getD, List.getElem?_append_right (Nat.le_refl _)]; simp
  have g2 : (dup l ++ [x, x]).getD ((dup l).length + 1) 0 = x := by rw [List.getD_eq_getElem?_getD, List.getElem?_append_right (by omega)]; simp
  rw [t1, t2, g1, g2, hc, List.count_append, hc]
  simp
theorem twice_right {xs : List Txn} {o : List Int} (hs : serB xs o = true) : srB xs (dup o) = true ∧ comR xs (dup o) = instR xs o ∧ seoR xs o = instR xs o := by
  obtain ⟨hv, hm, hr⟩ := serB_parts hs
  have hp := (same_iff (show (doneL xs).Nodup from doneI_nodup _ _)).1 hm
  have h1 := dup_right hv hp hr
  refine ⟨h1, ?_, by unfold seoR; rw [hs]; rfl⟩
  unfold comR
  rw [h1, if_pos rfl, cOrd_dup o (hp.nodup_iff.2 (doneI_nodup _ _))]
theorem dup_take (o : List Int) (k : Nat) (hk : k < o.length) : dup (o.take (k + 1)) = dup (o.take k) ++ [o[k], o[k]] := by
  rw [List.take_succ_eq_append_getElem hk, dup_append]; rfl
theorem row_two7 {w : World} (x : Int) : RowAny tInt (w.alloc (.cells #[.int .i64 x, .int .i64 x] 3)) (fun _ => False) (some ⟨w.heap.size, 0, none⟩) [x, x] := fun _ => ⟨_, 0, rfl, fun k hk => by
  have hk2 : k < 2 := by simpa using hk
  refine ⟨_, rfl, fun j u hu => ?_⟩
  rw [(Blk.new w _ _).cell]
  match k, hk2 with
  | 0, _ =>
    match j, hu with
    | 0, hu => exact hu
    | j + 1, hu => simp at hu
  | 1, _ =>
    match j, hu with
    | 0, hu => exact hu
    | j + 1, hu => simp at hu⟩
set_option maxRecDepth 10000 in
set_option maxHeartbeats 4000000 in
theorem lawFnTwice (bs : List Int) (A : Option Addr) (c : Nat) (w : World) (hm : bs.length ≤ maxLen) (hc : bs.length ≤ c) (hcm : c ≤ maxLen) (hA : Row tByte w (Old w) A bs) :
    Calls Tryz.prog 5 #[.slice A bs.length c] w fun e w' => e = .returned (.bool true) ∧ Below w.heap.size w w' := by
  have hq : bs.length ≤ 9223372036854775807 := by simpa [maxLen] using hm
  by_cases hl : bs.length ≤ 1048576
  · have HD := hide (drawSerialRight bs A c w hl hc hcm hA)
    clear hA
    go_enter Tryz.func5, Tryz.ntmps5
    go_wp2_with fail
    refine HD.out.mono ?_
    rintro e w1 ⟨xs, o, v, u, rfl, hS, hol, ho, hu, hb1⟩
    have HB1 := hide hb1
    clear hb1 HD
    obtain ⟨Ax, cx, rfl, hlex, hcmx, hrx⟩ := ho.oldE
    have Hx1 := hide hrx
    clear hrx ho
    obtain ⟨Ay, cy, rfl, hley, hcmy, hry⟩ := hu.oldE
    have Hy1 := hide hry
    clear hry hu
    obtain ⟨hxm, hx20, hxo, hxn⟩ := hS.le
    obtain ⟨i0, hi, hz0, hz1, hz2⟩ := info_parts infoInt_
    have hom : o.length ≤ 1048576 := by omega
    have homm : o.length ≤ maxLen := by simp only [maxLen]; omega
    go_wp2_with fail
    refine (implSerialRight xs o _ _ _ _ w1 hxm hom Hx1.out Hy1.out).mono ?_
    rintro e w2 ⟨rfl, hb⟩
    have Hx2 := hide (Hx1.out.old hb)
    have Hy2 := hide (Hy1.out.old hb)
    have HB2 := hide (HB1.out.trans (hb.mono HB1.out.size))
    clear hb HB1 Hx1 Hy1
    go_wp2_with fail
    refine (specSerialRight xs o _ _ _ _ w2 hxm hxo homm Hx2.out Hy2.out).mono ?_
    rintro e w3 ⟨rfl, hb⟩
    have Hx3 := hide (Hx2.out.old hb)
    have Hy3 := hide (Hy2.out.old hb)
    have HB3 := hide (HB2.out.trans (hb.mono HB2.out.size))
    clear hb HB2 Hx2 Hy2
    have HT := hide (fun h : serB xs o = true => twice_right h)
    generalize serB xs o = sb at HT ⊢
    have HO0 := hide (Own.empty (T := tInt) (e := 3) w3 (fun b => w3.heap.size ≤ b) (Nat.le_refl _))
    have HK0 := hide (show Only (fun b => w3.heap.size ≤ b) w3 (w3.alloc (.cells #[] 3)) from Only.of_alloc _ _)
    go_wp2_with fail
    go_loopw [6, 7] (fun v k wr => ∃ (kk : Nat) (vo : Value), vo = v ∧ kk ≤ o.length ∧ k = .int .i64 kk ∧ Hid (Own tInt 3 wr (fun b => w3.heap.size ≤ b ∧ Old wr b) (dup (o.take kk)) v) ∧ Hid (Only (fun b => w3.heap.size ≤ b) w3 wr)) (fun _ k _ => o.length - (intOf k).toNat)
    case atStart => exact ⟨0, _, rfl, Nat.zero_le _, rfl, HO0.out, HK0.out⟩
    case round =>
      obtain ⟨kk, vo, rfl, hkk, rfl, hO, hN⟩ := hrel
      clear HO0 HK0
      by_cases hlt : kk < o.length
      · have hki : (kk : Int) < (o.length : Int) := by omega
        obtain ⟨b, off, hAe, _, c0⟩ := at_Int Hy3.out hN.out.below hlt
        subst hAe
        have HDt := hide (dup_take o kk hlt)
        have HDl := hide (show (dup (o.take kk)).length ≤ 202 by rw [dup_len, List.length_take]; omega)
        generalize o[kk] = x at c0 HDt
        have HOk := hide (show Own tInt 3 (wr.drew.alloc (.cells #[.int .i64 x, .int .i64 x] 3)) (fun b => w3.heap.size ≤ b ∧ Old (wr.drew.alloc (.cells #[.int .i64 x, .int .i64 x] 3)) b) (dup (o.take kk)) vo from hO.out.mono (fun b hb => ⟨hb.1, Nat.lt_of_lt_of_le hb.2 (by rw [World.size_alloc]; exact Nat.le_succ _)⟩) (fun b hb => Below.heap_alloc wr.drew _ _ hb.2))
        have HNd := hide (show Only (fun b => w3.heap.size ≤ b) w3 (wr.drew.alloc (.cells #[.int .i64 x, .int .i64 x] 3)) from (hN.out.drewN 1).trans (Only.of_alloc _ _))
        have HRt := hide (show RowAny tInt (wr.drew.alloc (.cells #[.int .i64 x, .int .i64 x] 3)) (fun _ => False) (some ⟨wr.heap.size, 0, none⟩) [x, x] from row_two7 (w := wr.drew) x)
        clear hO hN
        obtain ⟨Av, cv, hve, _⟩ : ∃ A c, vo = .slice A (dup (o.take kk)).length c ∧ True := by obtain ⟨A, c, h, _⟩ := HOk.out.sl; exact ⟨A, c, h, trivial⟩
        obtain ⟨nz, hnz⟩ : ∃ n, n = (dup (o.take kk)).length := ⟨_, rfl⟩
        rw [← hnz] at hve
        subst hve
        clear hnz
        go_wp2_with fail
        go_region_law (refine wp_cat tInt (.tmp 31) (.tmp 40) 27 rfl 3 i0 _ 8 Tryz.underlying27 hi hz0 hz1 hz2 rfl (by decide) (fun b => w3.heap.size ≤ b) (fun _ => False) (dup (o.take kk)) [x, x] _ (by simp [Act.eval, Act.put]) HOk.out _ 2 2 (by simp [Act.eval, Act.put]) rfl HRt.out (fun _ h => h.elim) (fun b hb => Nat.le_trans HNd.out.size hb) (by have := HDl.out; simp only [maxLen, List.length_cons, List.length_nil]; omega) (by have := HDl.out; simp only [List.length_cons, List.length_nil]; omega) ?_; intro v8 w8 hO_ hK_; have HO8 := hide hO_; have HN8 := hide (HNd.out.trans hK_); clear hO_ hK_)
        all_goals
          go_wp2_with fail
          go_roundw
          case rel => exact ⟨kk + 1, _, rfl, by omega, by go_num, by rw [HDt.out]; exact HO8.out, HN8.out⟩
          case measure => simp [intOf]; omega
      · obtain rfl : kk = o.length := by omega
        have HNb := hide hN.out.below
        have HXr := hide (Hx3.out.old HNb.out)
        have HYr := hide (Hy3.out.old HNb.out)
        have HBr := hide (HB3.out.trans (HNb.out.mono HB3.out.size))
        have hO2 := hO.out
        rw [List.take_length] at hO2
        obtain ⟨A7, c7, hv7, h71, h72, hr7⟩ := hO2.oldRow
        have HZr := hide hr7
        have HDl := hide (dup_len o)
        have hd1 : (dup o).length ≤ 1048576 := by have := HDl.out; omega
        subst hv7
        clear hO hN hr7 hO2
        cases sb with
        | false =>
          go_wp2_with fail
          refine (alive_any wr).mono ?_
          rintro e wc ⟨rfl, hbc⟩
          have HBc := hide (HBr.out.trans (hbc.mono HBr.out.size))
          clear hbc
          go_wp2_with fail
          go_ret
          exact ⟨rfl, HBc.out⟩
        | true =>
          obtain ⟨ht1, ht2, ht3⟩ := HT.out rfl
          have HT1 := hide ht1; have HT2 := hide ht2; have HT3 := hide ht3
          have HIl := hide (instR_len xs o hom)
          clear ht1 ht2 ht3 HT
          go_wp2_with fail
          refine (implSnapshotRight xs (dup o) _ _ _ _ wr hxm hd1 HXr.out HZr.out).mono ?_
          rintro e wa ⟨rfl, hb⟩
          rw [HT1.out]
          have HXa := hide (HXr.out.old hb); have HYa := hide (HYr.out.old hb); have HZa := hide (HZr.out.old hb); have HBa := hide (HBr.out.trans (hb.mono HBr.out.size))
          clear hb HXr HYr HZr HBr
          go_wp2_with fail
          refine (implCommitOrders xs (dup o) _ _ _ _ wa hxm hd1 h71 HXa.out HZa.out).mono ?_
          rintro e wb ⟨vb, rfl, hT, hb⟩
          rw [HT2.out] at hT
          obtain ⟨Ab, cb, rfl, hleb, hcmb, hrb⟩ := hT.sl.fresh
          have HQb := hide hrb
          have HXb := hide (HXa.out.old hb); have HYb := hide (HYa.out.old hb); have HBb := hide (HBa.out.trans (hb.mono HBa.out.size))
          clear hb HXa HYa HZa HBa hT hrb
          go_wp2_with fail
          refine (implSerialOrders xs o _ _ _ _ wb hxm hom HXb.out HYb.out).mono ?_
          rintro e wc ⟨vc, rfl, hT, hb⟩
          rw [HT3.out] at hT
          obtain ⟨Ac, cc, rfl, hlec, hcmc, hrc⟩ := hT.sl.fresh
          have HPc := hide hrc
          have HQc := hide (HQb.out.old hb); have HBc := hide (HBb.out.trans (hb.mono HBb.out.size))
          clear hb HXb HYb HQb HBb hT hrc
          go_wp2_with fail
          refine (sameLists_any (instR xs o) _ _ _ _ wc (by have := HIl.out.1; simp only [maxLen]; omega) (fun x hx => by have := HIl.out.2 x hx; simp only [maxLen]; omega) HQc.out HPc.out).mono ?_
          rintro e wd ⟨rfl, hb⟩
          have HBd := hide (HBc.out.trans (hb.mono HBc.out.size))
          clear hb
          go_wp2_with fail
          go_ret
          exact ⟨rfl, HBd.out⟩
  · clear hA
    go_enter Tryz.func5, Tryz.ntmps5
    go_wp2_with fail
    go_ret
    exact ⟨rfl, Below.refl _ _⟩
end Go.Proofs.YtaaagoppecnmmaaGreatDoor
