/- l20Lists: some lists of numbers. -/
import Derived.Test.YtcfllpgppinofaaDoorNest
import Derived.Test.YtcfllpgppinofaaDoorSpansD
namespace Go.Proofs.YtcfllpgppinofaaDoor
open Go.RowKit
set_option linter.unusedVariables false

theorem infoIntSD : (Tryd.prog.info? 23).map (fun i => (i.zero, i.size, i.bytes)) = some (some (.slice none 0 0), 1, 24) := by kernel_rfl
/-- Lists that were drawn: the reader has gone on. -/
def DrawnS {α : Type} (T : Ty α) (w : World) (R P n : Nat) (en : Ending) (w' : World) : Prop :=
  ∃ (xs : List α) (v : Value), en = .returned v ∧ xs.length ≤ n ∧ Sl T w' (Old w') xs v ∧ Rd w' R P ∧ Gr w w' R

set_option maxRecDepth 10000 in
set_option maxHeartbeats 8000000 in
theorem lists_any (w : World) (R P : Nat) (n : Int) (h : Rd w R P) (hP : P ≤ 500) (hn : n ≤ 1000000) :
    Calls Tryd.prog 75 #[.pointer (some ⟨R, 0, none⟩), .int .i64 n] w (DrawnS (tSlice tInt) w R (P + 100) 10) := by
  obtain ⟨i0, hi, hz0, hz1, hz2⟩ := info_parts infoInt_
  obtain ⟨i1, hi1, hz01, hz11, hz21⟩ := info_parts infoIntSD
  have HR0 := hide (h.alloc (.cells #[] 3))
  have HlR := hide h.lt
  have HP := hide hP
  have HG0 := hide (gr_alloc (gr_refl w R) (.cells #[] 3))
  have HO0 := hide (Own.empty (T := tInt) (e := 3) w (fun b => w.heap.size ≤ b) (Nat.le_refl _))
  clear h hP
  go_enter Tryd.func75, Tryd.ntmps75
  go_wp2_with fail
  refine (pick_any _ R P 7 HR0.out (by have := HP.out; omega)).mono ?_
  rintro e w1 ⟨m, rfl, hm0, hm1, hr1, hg1⟩
  have HR1 := hide hr1
  have HG1 := hide (gr_trans HG0.out hg1)
  have HO1 := hide (Own.onlyGr HO0.out hg1 (by have := HlR.out; omega))
  have hm7 := hm1 (by decide)
  obtain ⟨kk0, rfl⟩ : ∃ n : Nat, m = (n : Int) := ⟨m.toNat, by omega⟩
  have hkk0 : kk0 ≤ 6 := by omega
  clear hm1 hr1 hg1 HG0 HR0 HO0 hm0 hm7
  go_wp2_with fail
  go_loopw [5, 6] (fun v k wr => ∃ (kk : Nat) (xs : List Int), k = .int .i64 kk ∧ kk ≤ 6 ∧ Hid (xs.length + kk ≤ 6) ∧ Hid (Own tInt 3 wr (fun b => w.heap.size ≤ b ∧ Old wr b) xs v) ∧ Hid (Rd wr R (P + 7 - kk)) ∧ Hid (Gr w wr R)) (fun _ k _ => (intOf k).toNat)
  case atStart => exact ⟨kk0, [], rfl, hkk0, by simpa [Hid] using hkk0, HO1.out, HR1.out.up (by omega), HG1.out⟩
  case round =>
    obtain ⟨kk, xs, rfl, hk, hxl, hO, hR, hG⟩ := hrel
    clear HO1 HR1 HG1
    by_cases hgo : 0 < (kk : Int)
    · go_wp2_with fail
      refine (pick_any _ R (P + 7 - kk) 9 hR.out (by have := HP.out; omega)).mono ?_
      rintro e w2 ⟨y, rfl, hy0, hy1, hr2, hg2⟩
      have HR2 := hide hr2
      have HG2 := hide (gr_trans hG.out hg2)
      have HO2 := hide (Own.onlyGr hO.out hg2 (by have := HlR.out; omega))
      have hy9 := hy1 (by decide)
      clear hr2 hg2 hO hR hG hy1
      go_wp2_with (at_builtin; refine wpList_put tInt rfl (.tmp 17) (.tmp 23) 23 rfl 3 i0 _ 8 Tryd.underlying23 hi hz0 hz1 hz2 rfl (by decide) (fun b => w.heap.size ≤ b) (fun _ => False) xs (10 * kk + y) _ _ rfl HO2.out _ rfl rfl (fun _ h => h.elim) (fun b hb => Nat.le_trans HG2.out.size hb) (by have := hxl.out; simp only [maxLen]; omega) (by have := hxl.out; omega) ?_; intro v3 w3 hO_ hK_; have HO3 := hide hO_; have HR3 := hide (HR2.out.only hK_ (fun b hb => by have := HlR.out; omega)); have HG3 := hide (gr_only HG2.out hK_ (fun _ h => h)); clear hO_ hK_)
      go_roundw
      case rel => exact ⟨kk - 1, xs ++ [10 * kk + y], by go_num, by omega, by show _ ≤ 6; have := hxl.out; simp; omega, HO3.out, HR3.out.up (by omega), HG3.out⟩
      case measure => simp [intOf]; omega
    · obtain rfl : kk = 0 := by omega
      obtain ⟨Aall, call, rfl, hle, hcm, hAll⟩ := hO.out.inOf (base := w.heap.size) (fun b hb => hb.1)
      have hlen6 : xs.length ≤ 6 := by have := hxl.out; omega
      have HAll := hide (hAll.mono (w' := wr.alloc (.cells #[] 23)) (S' := Of (wr.alloc (.cells #[] 23)) w.heap.size 3) (fun b hb => hb.keep (Below.heap_alloc _ _ _ hb.old)) (fun b hb => Below.heap_alloc _ _ _ hb.old))
      have HRa := hide (hR.out.alloc (.cells #[] 23))
      have HGa := hide (gr_alloc hG.out (.cells #[] 23))
      have HOa := hide (Own.empty (T := tAt (wr.alloc (.cells #[] 23)) (Of (wr.alloc (.cells #[] 23)) w.heap.size 3) (tSlice tInt)) (e := 23) wr (fun b => w.heap.size ≤ b) hG.out.size)
      have hcm' : call ≤ 9223372036854775807 := by simpa [maxLen] using hcm
      clear hAll hO hR hG hcm
      go_wp2_with fail
      refine (pick_any _ R (P + 7) 6 (HRa.out.up (by omega)) (by have := HP.out; omega)).mono ?_
      rintro e w1 ⟨m, rfl, hm0, hm1, hr1, hg1⟩
      have HRb := hide hr1
      have HGb := hide (gr_trans HGa.out hg1)
      have hfr : ∀ b, Of (wr.alloc (.cells #[] 23)) w.heap.size 3 b → w1.heap[b]? = (wr.alloc (.cells #[] 23)).heap[b]? := fun b hb => hg1.block b hb.old (fun e => by injection e with e; have := hb.1; have := HlR.out; omega)
      have HAllb := hide (HAll.out.mono (w' := w1) (S' := Of w1 w.heap.size 3) (fun b hb => hb.keep (hfr b hb)) hfr)
      have HOb := hide ((Own.onlyGr HOa.out hg1 (by have := HlR.out; omega)).reAt (w1 := w1) (E1 := Of w1 w.heap.size 3) (fun b hb => hb.keep (hfr b hb)) hfr)
      have hm6 := hm1 (by decide)
      obtain ⟨kk0, rfl⟩ : ∃ n : Nat, m = (n : Int) := ⟨m.toNat, by omega⟩
      have hkk0 : kk0 ≤ 5 := by omega
      clear hm1 hr1 hg1 hfr HRa HGa HOa HAll hm0 hm6
      go_wp2_with fail
      go_loopw [7, 8] (fun v k wr => ∃ (kk : Nat) (ls : List (List Int)), k = .int .i64 kk ∧ kk ≤ 5 ∧ Hid (ls.length + kk ≤ 5) ∧ Hid (Own (tAt wr (Of wr w.heap.size 3) (tSlice tInt)) 23 wr (fun b => w.heap.size ≤ b ∧ Old wr b) ls v) ∧ Hid (Row tInt wr (Of wr w.heap.size 3) Aall xs) ∧ Hid (Rd wr R (P + 20 - 2 * kk)) ∧ Hid (Gr w wr R)) (fun _ k _ => (intOf k).toNat)
      case atStart => exact ⟨kk0, [], rfl, hkk0, by simpa [Hid] using hkk0, HOb.out, HAllb.out, HRb.out.up (by omega), HGb.out⟩
      case round =>
        obtain ⟨kk, ls, rfl, hk, hll, hO, hAll, hR, hG⟩ := hrel
        clear HOb HAllb HRb HGb
        by_cases hgo2 : 0 < (kk : Int)
        · go_wp2_with fail
          have HX0 := hide (Own.empty (T := tInt) (e := 3) wr (fun b => wr.heap.size ≤ b) (Nat.le_refl _))
          have HRp := hide (hR.out.alloc (.cells #[] 3))
          have HGp := hide (gr_alloc hG.out (.cells #[] 3))
          have HZ0 := hide hG.out.size
          refine (pick_any _ R (P + 20 - 2 * kk) ((xs.length : Int) + 1) HRp.out (by have := HP.out; omega)).mono ?_
          rintro e w2 ⟨y, rfl, hy0, hy1, hr2, hg2⟩
          have hyl := hy1 (by omega)
          obtain ⟨yn, rfl⟩ : ∃ n : Nat, y = (n : Int) := ⟨y.toNat, by omega⟩
          have hyn : yn ≤ xs.length := by omega
          have HR2 := hide hr2
          have HG2 := hide (gr_trans HGp.out hg2)
          have HX2 := hide (Own.onlyGr HX0.out hg2 (by have := HlR.out; have := HZ0.out; omega))
          have hf2 : ∀ b, w.heap.size ≤ b → b < wr.heap.size → w2.heap[b]? = wr.heap[b]? := fun b h1 h2 => (hg2.block b (by simp; omega) (fun e => by injection e with e; have := HlR.out; omega)).trans (Below.heap_alloc _ _ _ h2)
          have HF2 := hide hf2
          have HZ2 := hide (show wr.heap.size ≤ w2.heap.size by have := hg2.size; simp at this; omega)
          have HRy := hide (((hAll.out.mono (w' := w2) (S' := Old w2) (fun b hb => Nat.lt_of_lt_of_le hb.old HZ2.out) (fun b hb => hf2 b hb.1 hb.old)).takeN yn).anyInt)
          have HTl := hide (show yn = (xs.take yn).length by rw [List.length_take]; omega)
          have hync : (yn : Int) ≤ (call : Int) := by omega
          clear hr2 hg2 hy1 hf2 hyl hy0
          go_wp2_with (at_builtin; refine wpList_cat tInt rfl (.tmp 32) (.tmp 39) 23 rfl 3 i0 _ 8 Tryd.underlying23 hi hz0 hz1 hz2 rfl (by decide) (fun b => wr.heap.size ≤ b) (fun _ => False) [] (xs.take yn) _ rfl HX2.out _ _ _ rfl HTl.out HRy.out (fun _ h => h.elim) (fun b hb => Nat.le_trans HZ2.out hb) (by simp only [maxLen, List.length_nil, List.length_take]; omega) (by simp only [List.length_nil, List.length_take]; omega) ?_; intro v3 w3 hO_ hK_; have HX3 := hide hO_; have HK3 := hide hK_; clear hO_ hK_)
          have HR3 := hide (HR2.out.only HK3.out (fun b hb => by have := HlR.out; have := HZ0.out; omega))
          have HG3 := hide (gr_only HG2.out HK3.out (fun b hb => Nat.le_trans HZ0.out hb))
          refine (odd_any w3 R (P + 20 - 2 * kk + 1) 6 HR3.out (by have := HP.out; omega) (by omega)).mono ?_
          rintro e w4 ⟨o, rfl, hr4, hg4⟩
          have HR4 := hide hr4
          have HG4 := hide (gr_trans HG3.out hg4)
          have HX4 := hide (Own.onlyGr HX3.out hg4 (by have := HlR.out; have := HZ0.out; omega))
          have HZ4 := hide (show wr.heap.size ≤ w4.heap.size from Nat.le_trans HZ2.out (Nat.le_trans HK3.out.size hg4.size))
          have HF4 := hide (show ∀ b, w.heap.size ≤ b → b < wr.heap.size → w4.heap[b]? = wr.heap[b]? from fun b h1 h2 => ((hg4.block b (Nat.lt_of_lt_of_le h2 (Nat.le_trans HZ2.out HK3.out.size)) (fun e => by injection e with e; have := HlR.out; omega)).trans (HK3.out.block b (Nat.lt_of_lt_of_le h2 HZ2.out) (by omega))).trans (HF2.out b h1 h2))
          clear hr4 hg4
          cases o with
          | false =>
            have HRz := HR4; have HGz := HG4
            obtain ⟨xl, hxl⟩ : ∃ l, l = [] ++ xs.take yn := ⟨_, rfl⟩
            have hX9 := HX4.out
            rw [← hxl] at hX9
            obtain ⟨Ax, cx, rfl, hx1, hx2, hx3⟩ := hX9.inOf (base := w.heap.size) (fun b hb => Nat.le_trans HZ0.out hb.1)
            have HY := hide (show (tSlice tInt).rel w4 (Of w4 w.heap.size 3) xl [.slice Ax xl.length cx] from ⟨_, rfl, Ax, cx, rfl, hx1, hx2, hx3⟩)
            have hfrz : ∀ b, Of wr w.heap.size 3 b → w4.heap[b]? = wr.heap[b]? := fun b hb => HF4.out b hb.1 hb.old
            have hsz : wr.heap.size ≤ w4.heap.size := HZ4.out
            have HOz := hide ((hO.out.mono (w' := w4) (S2 := fun b => w.heap.size ≤ b ∧ Old w4 b) (fun b hb => ⟨hb.1, Nat.lt_of_lt_of_le hb.2 hsz⟩) (fun b hb => HF4.out b hb.1 hb.2)).reAt (w1 := w4) (E1 := Of w4 w.heap.size 3) (fun b hb => hb.keep (hfrz b hb)) hfrz)
            have HAllz := hide (hAll.out.mono (w' := w4) (S' := Of w4 w.heap.size 3) (fun b hb => hb.keep (hfrz b hb)) hfrz)
            clear hxl hX9 hx1 hx2 hx3 hfrz hsz
            go_wp2_with (at_builtin; refine wpList_push (tSlice tInt) rfl (.tmp 46) (.tmp 48) 56 rfl 23 i1 _ 24 Tryd.underlying56 hi1 hz01 hz11 hz21 rfl (by decide) (fun b => w.heap.size ≤ b) w4 (Of w4 w.heap.size 3) ls xl [.slice Ax xl.length cx] _ rfl HOz.out _ rfl HY.out (fun b hb => Nat.le_trans HGz.out.size hb) (by have := hll.out; simp only [maxLen]; omega) (by have := hll.out; omega) ?_; intro v8 w8 hO_ hK_ hF_; have hfr8 : ∀ b, Of w4 w.heap.size 3 b → w8.heap[b]? = w4.heap[b]? := (fun b hb => by obtain ⟨_, cur, hb⟩ := hb; exact hF_ b _ cur hb (by decide)); have HO8 := hide (hO_.reAt (w1 := w8) (E1 := Of w8 w.heap.size 3) (fun b hb => hb.keep (hfr8 b hb)) hfr8); have HAll8 := hide (HAllz.out.mono (w' := w8) (S' := Of w8 w.heap.size 3) (fun b hb => hb.keep (hfr8 b hb)) hfr8); have HR8 := hide (HRz.out.only hK_ (fun b hb => by have := HlR.out; omega)); have HG8 := hide (gr_only HGz.out hK_ (fun _ h => h)); clear hO_ hK_ hF_ hfr8)
            go_roundw
            case rel => exact ⟨kk - 1, ls ++ [xl], by go_num, by omega, by show _ ≤ 5; have := hll.out; simp; omega, HO8.out, HAll8.out, HR8.out.up (by omega), HG8.out⟩
            case measure => simp [intOf]; omega
          | true =>
            go_upto_region 13 with (at_builtin; refine wpList_put tInt rfl (.tmp 43) (.tmp 44) 23 rfl 3 i0 _ 8 Tryd.underlying23 hi hz0 hz1 hz2 rfl (by decide) (fun b => wr.heap.size ≤ b) (fun _ => False) ([] ++ xs.take yn) 95 _ _ rfl HX4.out _ rfl rfl (fun _ h => h.elim) (fun b hb => Nat.le_trans HZ4.out hb) (by simp only [List.nil_append, maxLen, List.length_take]; omega) (by simp only [List.nil_append, List.length_take]; omega) ?_; intro v5 w5 hO_ hK_; have HX5 := hide hO_; have HK5 := hide hK_; clear hO_ hK_)
            have HRz := hide (HR4.out.only HK5.out (fun b hb => by have := HlR.out; have := HZ0.out; omega))
            have HGz := hide (gr_only HG4.out HK5.out (fun b hb => Nat.le_trans HZ0.out hb))
            have HF5 := hide (show ∀ b, w.heap.size ≤ b → b < wr.heap.size → w5.heap[b]? = wr.heap[b]? from fun b h1 h2 => (HK5.out.block b (Nat.lt_of_lt_of_le h2 HZ4.out) (by omega)).trans (HF4.out b h1 h2))
            obtain ⟨xl, hxl⟩ : ∃ l, l = [] ++ xs.take yn ++ [95] := ⟨_, rfl⟩
            have hX9 := HX5.out
            rw [← hxl] at hX9
            obtain ⟨Ax, cx, rfl, hx1, hx2, hx3⟩ := hX9.inOf (base := w.heap.size) (fun b hb => Nat.le_trans HZ0.out hb.1)
            have HY := hide (show (tSlice tInt).rel w5 (Of w5 w.heap.size 3) xl [.slice Ax xl.length cx] from ⟨_, rfl, Ax, cx, rfl, hx1, hx2, hx3⟩)
            have hfrz : ∀ b, Of wr w.heap.size 3 b → w5.heap[b]? = wr.heap[b]? := fun b hb => HF5.out b hb.1 hb.old
            have hsz : wr.heap.size ≤ w5.heap.size := Nat.le_trans HZ4.out HK5.out.size
            have HOz := hide ((hO.out.mono (w' := w5) (S2 := fun b => w.heap.size ≤ b ∧ Old w5 b) (fun b hb => ⟨hb.1, Nat.lt_of_lt_of_le hb.2 hsz⟩) (fun b hb => HF5.out b hb.1 hb.2)).reAt (w1 := w5) (E1 := Of w5 w.heap.size 3) (fun b hb => hb.keep (hfrz b hb)) hfrz)
            have HAllz := hide (hAll.out.mono (w' := w5) (S' := Of w5 w.heap.size 3) (fun b hb => hb.keep (hfrz b hb)) hfrz)
            clear hxl hX9 hx1 hx2 hx3 hfrz hsz
            go_wp2_with (at_builtin; refine wpList_push (tSlice tInt) rfl (.tmp 46) (.tmp 48) 56 rfl 23 i1 _ 24 Tryd.underlying56 hi1 hz01 hz11 hz21 rfl (by decide) (fun b => w.heap.size ≤ b) w5 (Of w5 w.heap.size 3) ls xl [.slice Ax xl.length cx] _ rfl HOz.out _ rfl HY.out (fun b hb => Nat.le_trans HGz.out.size hb) (by have := hll.out; simp only [maxLen]; omega) (by have := hll.out; omega) ?_; intro v8 w8 hO_ hK_ hF_; have hfr8 : ∀ b, Of w5 w.heap.size 3 b → w8.heap[b]? = w5.heap[b]? := (fun b hb => by obtain ⟨_, cur, hb⟩ := hb; exact hF_ b _ cur hb (by decide)); have HO8 := hide (hO_.reAt (w1 := w8) (E1 := Of w8 w.heap.size 3) (fun b hb => hb.keep (hfr8 b hb)) hfr8); have HAll8 := hide (HAllz.out.mono (w' := w8) (S' := Of w8 w.heap.size 3) (fun b hb => hb.keep (hfr8 b hb)) hfr8); have HR8 := hide (HRz.out.only hK_ (fun b hb => by have := HlR.out; omega)); have HG8 := hide (gr_only HGz.out hK_ (fun _ h => h)); clear hO_ hK_ hF_ hfr8)
            go_roundw
            case rel => exact ⟨kk - 1, ls ++ [xl], by go_num, by omega, by show _ ≤ 5; have := hll.out; simp; omega, HO8.out, HAll8.out, HR8.out.up (by omega), HG8.out⟩
            case measure => simp [intOf]; omega
        · obtain rfl : kk = 0 := by omega
          have hls : ls.length ≤ 5 := by have := hll.out; omega
          have hsz0 := hG.out.size
          go_wp2_with fail
          refine (odd_any wr R (P + 20) n (hR.out.up (by omega)) (by have := HP.out; omega) hn).mono ?_
          rintro e w3 ⟨o, rfl, hr3, hg3⟩
          have hf3 : ∀ b, Of wr w.heap.size 3 b → w3.heap[b]? = wr.heap[b]? := fun b hb => hg3.block b hb.old (fun e => by injection e with e; have := hb.1; have := HlR.out; omega)
          have HR3 := hide hr3
          have HG3 := hide (gr_trans hG.out hg3)
          have HO3 := hide ((Own.onlyGr hO.out hg3 (by have := HlR.out; omega)).reAt (w1 := w3) (E1 := Of w3 w.heap.size 3) (fun b hb => hb.keep (hf3 b hb)) hf3)
          clear hr3 hg3 hf3 hO hAll hR hG
          cases o with
          | false =>
            go_wp2_with fail
            go_ret
            exact ⟨ls, _, rfl, by omega, HO3.out.slAt (fun b hb => hb.old) (fun b hb => rfl) (fun b hb => hb.2), HR3.out.up (by omega), HG3.out⟩
          | true =>
            have hfa : Below w3.heap.size w3 (((((w3.alloc (.cells #[.int .i64 0] 3)).alloc (.cells #[.int .i64 5, .int .i64 5] 3)).alloc (.cells #[.int .i64 100] 3)).alloc (.cells #[.int .i64 1, .int .i64 2, .int .i64 3, .int .i64 4, .int .i64 5, .int .i64 6, .int .i64 7, .int .i64 8, .int .i64 9] 3)).alloc (.cells #[.slice (some ⟨w3.heap.size, 0, none⟩) 1 1, .slice (some ⟨w3.heap.size + 1, 0, none⟩) 2 2, .slice (some ⟨w3.heap.size + 2, 0, none⟩) 1 1, .slice (some ⟨w3.heap.size + 3, 0, none⟩) 9 9] 23)) := (((((Below.refl _ w3).alloc (Nat.le_refl _) (.cells #[.int .i64 0] 3)).alloc (by simp) (.cells #[.int .i64 5, .int .i64 5] 3)).alloc (by simp; omega) (.cells #[.int .i64 100] 3)).alloc (by simp; omega) (.cells #[.int .i64 1, .int .i64 2, .int .i64 3, .int .i64 4, .int .i64 5, .int .i64 6, .int .i64 7, .int .i64 8, .int .i64 9] 3)).alloc (by simp; omega) (.cells #[.slice (some ⟨w3.heap.size, 0, none⟩) 1 1, .slice (some ⟨w3.heap.size + 1, 0, none⟩) 2 2, .slice (some ⟨w3.heap.size + 2, 0, none⟩) 1 1, .slice (some ⟨w3.heap.size + 3, 0, none⟩) 9 9] 23)
            have HFa := hide hfa
            have HRa := hide (HR3.out.below hfa)
            have HGa := hide (gr_below HG3.out hfa)
            have hB0 : Blk (((((w3.alloc (.cells #[.int .i64 0] 3)).alloc (.cells #[.int .i64 5, .int .i64 5] 3)).alloc (.cells #[.int .i64 100] 3)).alloc (.cells #[.int .i64 1, .int .i64 2, .int .i64 3, .int .i64 4, .int .i64 5, .int .i64 6, .int .i64 7, .int .i64 8, .int .i64 9] 3)).alloc (.cells #[.slice (some ⟨w3.heap.size, 0, none⟩) 1 1, .slice (some ⟨w3.heap.size + 1, 0, none⟩) 2 2, .slice (some ⟨w3.heap.size + 2, 0, none⟩) 1 1, .slice (some ⟨w3.heap.size + 3, 0, none⟩) 9 9] 23)) w3.heap.size 3 #[.int .i64 0] := ((((Blk.new w3 _ _).alloc _).alloc _).alloc _).alloc _
            have hB1 : Blk (((((w3.alloc (.cells #[.int .i64 0] 3)).alloc (.cells #[.int .i64 5, .int .i64 5] 3)).alloc (.cells #[.int .i64 100] 3)).alloc (.cells #[.int .i64 1, .int .i64 2, .int .i64 3, .int .i64 4, .int .i64 5, .int .i64 6, .int .i64 7, .int .i64 8, .int .i64 9] 3)).alloc (.cells #[.slice (some ⟨w3.heap.size, 0, none⟩) 1 1, .slice (some ⟨w3.heap.size + 1, 0, none⟩) 2 2, .slice (some ⟨w3.heap.size + 2, 0, none⟩) 1 1, .slice (some ⟨w3.heap.size + 3, 0, none⟩) 9 9] 23)) (w3.heap.size + 1) 3 #[.int .i64 5, .int .i64 5] := by
              have h := (((Blk.new (w3.alloc (.cells #[.int .i64 0] 3)) 3 #[.int .i64 5, .int .i64 5]).alloc (.cells #[.int .i64 100] 3)).alloc (.cells #[.int .i64 1, .int .i64 2, .int .i64 3, .int .i64 4, .int .i64 5, .int .i64 6, .int .i64 7, .int .i64 8, .int .i64 9] 3)).alloc (.cells #[.slice (some ⟨w3.heap.size, 0, none⟩) 1 1, .slice (some ⟨w3.heap.size + 1, 0, none⟩) 2 2, .slice (some ⟨w3.heap.size + 2, 0, none⟩) 1 1, .slice (some ⟨w3.heap.size + 3, 0, none⟩) 9 9] 23)
              simpa using h
            have hB2 : Blk (((((w3.alloc (.cells #[.int .i64 0] 3)).alloc (.cells #[.int .i64 5, .int .i64 5] 3)).alloc (.cells #[.int .i64 100] 3)).alloc (.cells #[.int .i64 1, .int .i64 2, .int .i64 3, .int .i64 4, .int .i64 5, .int .i64 6, .int .i64 7, .int .i64 8, .int .i64 9] 3)).alloc (.cells #[.slice (some ⟨w3.heap.size, 0, none⟩) 1 1, .slice (some ⟨w3.heap.size + 1, 0, none⟩) 2 2, .slice (some ⟨w3.heap.size + 2, 0, none⟩) 1 1, .slice (some ⟨w3.heap.size + 3, 0, none⟩) 9 9] 23)) (w3.heap.size + 2) 3 #[.int .i64 100] := by
              have h := ((Blk.new ((w3.alloc (.cells #[.int .i64 0] 3)).alloc (.cells #[.int .i64 5, .int .i64 5] 3)) 3 #[.int .i64 100]).alloc (.cells #[.int .i64 1, .int .i64 2, .int .i64 3, .int .i64 4, .int .i64 5, .int .i64 6, .int .i64 7, .int .i64 8, .int .i64 9] 3)).alloc (.cells #[.slice (some ⟨w3.heap.size, 0, none⟩) 1 1, .slice (some ⟨w3.heap.size + 1, 0, none⟩) 2 2, .slice (some ⟨w3.heap.size + 2, 0, none⟩) 1 1, .slice (some ⟨w3.heap.size + 3, 0, none⟩) 9 9] 23)
              simpa using h
            have hB3 : Blk (((((w3.alloc (.cells #[.int .i64 0] 3)).alloc (.cells #[.int .i64 5, .int .i64 5] 3)).alloc (.cells #[.int .i64 100] 3)).alloc (.cells #[.int .i64 1, .int .i64 2, .int .i64 3, .int .i64 4, .int .i64 5, .int .i64 6, .int .i64 7, .int .i64 8, .int .i64 9] 3)).alloc (.cells #[.slice (some ⟨w3.heap.size, 0, none⟩) 1 1, .slice (some ⟨w3.heap.size + 1, 0, none⟩) 2 2, .slice (some ⟨w3.heap.size + 2, 0, none⟩) 1 1, .slice (some ⟨w3.heap.size + 3, 0, none⟩) 9 9] 23)) (w3.heap.size + 3) 3 #[.int .i64 1, .int .i64 2, .int .i64 3, .int .i64 4, .int .i64 5, .int .i64 6, .int .i64 7, .int .i64 8, .int .i64 9] := by
              have h := (Blk.new (((w3.alloc (.cells #[.int .i64 0] 3)).alloc (.cells #[.int .i64 5, .int .i64 5] 3)).alloc (.cells #[.int .i64 100] 3)) 3 #[.int .i64 1, .int .i64 2, .int .i64 3, .int .i64 4, .int .i64 5, .int .i64 6, .int .i64 7, .int .i64 8, .int .i64 9]).alloc (.cells #[.slice (some ⟨w3.heap.size, 0, none⟩) 1 1, .slice (some ⟨w3.heap.size + 1, 0, none⟩) 2 2, .slice (some ⟨w3.heap.size + 2, 0, none⟩) 1 1, .slice (some ⟨w3.heap.size + 3, 0, none⟩) 9 9] 23)
              simpa using h
            have hB4 : Blk (((((w3.alloc (.cells #[.int .i64 0] 3)).alloc (.cells #[.int .i64 5, .int .i64 5] 3)).alloc (.cells #[.int .i64 100] 3)).alloc (.cells #[.int .i64 1, .int .i64 2, .int .i64 3, .int .i64 4, .int .i64 5, .int .i64 6, .int .i64 7, .int .i64 8, .int .i64 9] 3)).alloc (.cells #[.slice (some ⟨w3.heap.size, 0, none⟩) 1 1, .slice (some ⟨w3.heap.size + 1, 0, none⟩) 2 2, .slice (some ⟨w3.heap.size + 2, 0, none⟩) 1 1, .slice (some ⟨w3.heap.size + 3, 0, none⟩) 9 9] 23)) (w3.heap.size + 4) 23 #[.slice (some ⟨w3.heap.size, 0, none⟩) 1 1, .slice (some ⟨w3.heap.size + 1, 0, none⟩) 2 2, .slice (some ⟨w3.heap.size + 2, 0, none⟩) 1 1, .slice (some ⟨w3.heap.size + 3, 0, none⟩) 9 9] := by
              have h := Blk.new ((((w3.alloc (.cells #[.int .i64 0] 3)).alloc (.cells #[.int .i64 5, .int .i64 5] 3)).alloc (.cells #[.int .i64 100] 3)).alloc (.cells #[.int .i64 1, .int .i64 2, .int .i64 3, .int .i64 4, .int .i64 5, .int .i64 6, .int .i64 7, .int .i64 8, .int .i64 9] 3)) 23 #[.slice (some ⟨w3.heap.size, 0, none⟩) 1 1, .slice (some ⟨w3.heap.size + 1, 0, none⟩) 2 2, .slice (some ⟨w3.heap.size + 2, 0, none⟩) 1 1, .slice (some ⟨w3.heap.size + 3, 0, none⟩) 9 9]
              simpa using h
            have HB0 := hide hB0; have HB1 := hide hB1; have HB2 := hide hB2; have HB3 := hide hB3; have HB4 := hide hB4
            have HS5 := hide (show (((((w3.alloc (.cells #[.int .i64 0] 3)).alloc (.cells #[.int .i64 5, .int .i64 5] 3)).alloc (.cells #[.int .i64 100] 3)).alloc (.cells #[.int .i64 1, .int .i64 2, .int .i64 3, .int .i64 4, .int .i64 5, .int .i64 6, .int .i64 7, .int .i64 8, .int .i64 9] 3)).alloc (.cells #[.slice (some ⟨w3.heap.size, 0, none⟩) 1 1, .slice (some ⟨w3.heap.size + 1, 0, none⟩) 2 2, .slice (some ⟨w3.heap.size + 2, 0, none⟩) 1 1, .slice (some ⟨w3.heap.size + 3, 0, none⟩) 9 9] 23)).heap.size = w3.heap.size + 5 by simp)
            clear hB0 hB1 hB2 hB3 hB4 hfa
            go_wp2_with fail
            refine (pick_any _ R (P + 21) 4 (HRa.out.up (by omega)) (by have := HP.out; omega)).mono ?_
            rintro e w4 ⟨y, rfl, hy0, hy1, hr4, hg4⟩
            have HR4 := hide hr4
            have HG4 := hide (gr_trans HGa.out hg4)
            have hR3 := HR3.out.lt
            have hk : ∀ i, i < 5 → w4.heap[w3.heap.size + i]? = (((((w3.alloc (.cells #[.int .i64 0] 3)).alloc (.cells #[.int .i64 5, .int .i64 5] 3)).alloc (.cells #[.int .i64 100] 3)).alloc (.cells #[.int .i64 1, .int .i64 2, .int .i64 3, .int .i64 4, .int .i64 5, .int .i64 6, .int .i64 7, .int .i64 8, .int .i64 9] 3)).alloc (.cells #[.slice (some ⟨w3.heap.size, 0, none⟩) 1 1, .slice (some ⟨w3.heap.size + 1, 0, none⟩) 2 2, .slice (some ⟨w3.heap.size + 2, 0, none⟩) 1 1, .slice (some ⟨w3.heap.size + 3, 0, none⟩) 9 9] 23)).heap[w3.heap.size + i]? := fun i hi5 => hg4.block _ (by rw [HS5.out]; omega) (fun e => by injection e with e; omega)
            have HD0 := hide (HB0.out.of (hk 0 (by decide)))
            have HD1 := hide (HB1.out.of (hk 1 (by decide)))
            have HD2 := hide (HB2.out.of (hk 2 (by decide)))
            have HD3 := hide (HB3.out.of (hk 3 (by decide)))
            have HD4 := hide (HB4.out.of (hk 4 (by decide)))
            have hf4 : ∀ b, w.heap.size ≤ b → b < w3.heap.size → w4.heap[b]? = w3.heap[b]? := fun b h1 h2 => (hg4.block b (by rw [HS5.out]; omega) (fun e => by injection e with e; have := HlR.out; omega)).trans (HFa.out.block b h2)
            have hsz4 : w3.heap.size ≤ w4.heap.size := by have := hg4.size; rw [HS5.out] at this; omega
            have HO4 := hide ((HO3.out.mono (w' := w4) (S2 := fun b => w.heap.size ≤ b ∧ Old w4 b) (fun b hb => ⟨hb.1, Nat.lt_of_lt_of_le hb.2 hsz4⟩) (fun b hb => hf4 b hb.1 hb.2)).reAt (w1 := w4) (E1 := Of w4 w.heap.size 3) (fun b hb => hb.keep (hf4 b hb.1 hb.old)) (fun b hb => hf4 b hb.1 hb.old))
            have HS3 := hide HG3.out.size
            have hy4 : y = 0 ∨ y = 1 ∨ y = 2 ∨ y = 3 := by have := hy1 (by decide); omega
            clear hr4 hg4 hy0 hy1 hk hf4 hsz4 HB0 HB1 HB2 HB3 HB4 HRa HGa HO3 HFa
            rcases hy4 with rfl | rfl | rfl | rfl
            · have d0 := HD4.out.cell 0
              simp only [List.getElem?_toArray, List.getElem?_cons_zero, List.getElem?_cons_succ] at d0
              have HY := hide (show (tSlice tInt).rel w4 (Of w4 w.heap.size 3) [0] [.slice (some ⟨w3.heap.size, 0, none⟩) 1 1] from ⟨_, rfl, _, 1, rfl, Nat.le_refl _, by simp [maxLen], fun _ => ⟨_, 0, rfl, ⟨by have := HS3.out; omega, _, HD0.out⟩, fun k hk => by
                refine ⟨_, rfl, fun j u hu => ?_⟩
                obtain ⟨hj, rfl⟩ := List.getElem?_eq_some_iff.1 hu
                have hj0 : j = 0 := by simpa using hj
                subst hj0
                rw [HD0.out.cell]
                match k, hk with
                  | 0, _ => rfl
                  | k + 1, h => exact absurd h (by simp)⟩⟩)
              go_wp2_with (at_builtin; refine wpList_push (tSlice tInt) rfl (.tmp 53) (.tmp 63) 56 rfl 23 i1 _ 24 Tryd.underlying56 hi1 hz01 hz11 hz21 rfl (by decide) (fun b => w.heap.size ≤ b) w4 (Of w4 w.heap.size 3) ls [0] [.slice (some ⟨w3.heap.size, 0, none⟩) 1 1] _ rfl HO4.out _ rfl HY.out (fun b hb => Nat.le_trans HG4.out.size hb) (by simp only [maxLen]; omega) (by omega) ?_; intro v8 w8 hO_ hK_ hF_; have hfr8 : ∀ b, Of w4 w.heap.size 3 b → w8.heap[b]? = w4.heap[b]? := (fun b hb => by obtain ⟨_, cur, hb⟩ := hb; exact hF_ b _ cur hb (by decide)); have HO8 := hide (hO_.reAt (w1 := w8) (E1 := Of w8 w.heap.size 3) (fun b hb => hb.keep (hfr8 b hb)) hfr8); have HR8 := hide (HR4.out.only hK_ (fun b hb => by have := HlR.out; omega)); have HG8 := hide (gr_only HG4.out hK_ (fun _ h => h)); clear hO_ hK_ hF_ hfr8)
              go_ret
              exact ⟨_, _, rfl, by simp; omega, HO8.out.slAt (fun b hb => hb.old) (fun b hb => rfl) (fun b hb => hb.2), HR8.out.up (by omega), HG8.out⟩
            · have d0 := HD4.out.cell 1
              simp only [List.getElem?_toArray, List.getElem?_cons_zero, List.getElem?_cons_succ] at d0
              have HY := hide (show (tSlice tInt).rel w4 (Of w4 w.heap.size 3) [5, 5] [.slice (some ⟨w3.heap.size + 1, 0, none⟩) 2 2] from ⟨_, rfl, _, 2, rfl, Nat.le_refl _, by simp [maxLen], fun _ => ⟨_, 0, rfl, ⟨by have := HS3.out; omega, _, HD1.out⟩, fun k hk => by
                refine ⟨_, rfl, fun j u hu => ?_⟩
                obtain ⟨hj, rfl⟩ := List.getElem?_eq_some_iff.1 hu
                have hj0 : j = 0 := by simpa using hj
                subst hj0
                rw [HD1.out.cell]
                match k, hk with
                  | 0, _ => rfl
                  | 1, _ => rfl
                  | k + 2, h => exact absurd h (by simp)⟩⟩)
              go_wp2_with (at_builtin; refine wpList_push (tSlice tInt) rfl (.tmp 53) (.tmp 63) 56 rfl 23 i1 _ 24 Tryd.underlying56 hi1 hz01 hz11 hz21 rfl (by decide) (fun b => w.heap.size ≤ b) w4 (Of w4 w.heap.size 3) ls [5, 5] [.slice (some ⟨w3.heap.size + 1, 0, none⟩) 2 2] _ rfl HO4.out _ rfl HY.out (fun b hb => Nat.le_trans HG4.out.size hb) (by simp only [maxLen]; omega) (by omega) ?_; intro v8 w8 hO_ hK_ hF_; have hfr8 : ∀ b, Of w4 w.heap.size 3 b → w8.heap[b]? = w4.heap[b]? := (fun b hb => by obtain ⟨_, cur, hb⟩ := hb; exact hF_ b _ cur hb (by decide)); have HO8 := hide (hO_.reAt (w1 := w8) (E1 := Of w8 w.heap.size 3) (fun b hb => hb.keep (hfr8 b hb)) hfr8); have HR8 := hide (HR4.out.only hK_ (fun b hb => by have := HlR.out; omega)); have HG8 := hide (gr_only HG4.out hK_ (fun _ h => h)); clear hO_ hK_ hF_ hfr8)
              go_ret
              exact ⟨_, _, rfl, by simp; omega, HO8.out.slAt (fun b hb => hb.old) (fun b hb => rfl) (fun b hb => hb.2), HR8.out.up (by omega), HG8.out⟩
            · have d0 := HD4.out.cell 2
              simp only [List.getElem?_toArray, List.getElem?_cons_zero, List.getElem?_cons_succ] at d0
              have HY := hide (show (tSlice tInt).rel w4 (Of w4 w.heap.size 3) [100] [.slice (some ⟨w3.heap.size + 2, 0, none⟩) 1 1] from ⟨_, rfl, _, 1, rfl, Nat.le_refl _, by simp [maxLen], fun _ => ⟨_, 0, rfl, ⟨by have := HS3.out; omega, _, HD2.out⟩, fun k hk => by
                refine ⟨_, rfl, fun j u hu => ?_⟩
                obtain ⟨hj, rfl⟩ := List.getElem?_eq_some_iff.1 hu
                have hj0 : j = 0 := by simpa using hj
                subst hj0
                rw [HD2.out.cell]
                match k, hk with
                  | 0, _ => rfl
                  | k + 1, h => exact absurd h (by simp)⟩⟩)
              go_wp2_with (at_builtin; refine wpList_push (tSlice tInt) rfl (.tmp 53) (.tmp 63) 56 rfl 23 i1 _ 24 Tryd.underlying56 hi1 hz01 hz11 hz21 rfl (by decide) (fun b => w.heap.size ≤ b) w4 (Of w4 w.heap.size 3) ls [100] [.slice (some ⟨w3.heap.size + 2, 0, none⟩) 1 1] _ rfl HO4.out _ rfl HY.out (fun b hb => Nat.le_trans HG4.out.size hb) (by simp only [maxLen]; omega) (by omega) ?_; intro v8 w8 hO_ hK_ hF_; have hfr8 : ∀ b, Of w4 w.heap.size 3 b → w8.heap[b]? = w4.heap[b]? := (fun b hb => by obtain ⟨_, cur, hb⟩ := hb; exact hF_ b _ cur hb (by decide)); have HO8 := hide (hO_.reAt (w1 := w8) (E1 := Of w8 w.heap.size 3) (fun b hb => hb.keep (hfr8 b hb)) hfr8); have HR8 := hide (HR4.out.only hK_ (fun b hb => by have := HlR.out; omega)); have HG8 := hide (gr_only HG4.out hK_ (fun _ h => h)); clear hO_ hK_ hF_ hfr8)
              go_ret
              exact ⟨_, _, rfl, by simp; omega, HO8.out.slAt (fun b hb => hb.old) (fun b hb => rfl) (fun b hb => hb.2), HR8.out.up (by omega), HG8.out⟩
            · have d0 := HD4.out.cell 3
              simp only [List.getElem?_toArray, List.getElem?_cons_zero, List.getElem?_cons_succ] at d0
              have HY := hide (show (tSlice tInt).rel w4 (Of w4 w.heap.size 3) [1, 2, 3, 4, 5, 6, 7, 8, 9] [.slice (some ⟨w3.heap.size + 3, 0, none⟩) 9 9] from ⟨_, rfl, _, 9, rfl, Nat.le_refl _, by simp [maxLen], fun _ => ⟨_, 0, rfl, ⟨by have := HS3.out; omega, _, HD3.out⟩, fun k hk => by
                refine ⟨_, rfl, fun j u hu => ?_⟩
                obtain ⟨hj, rfl⟩ := List.getElem?_eq_some_iff.1 hu
                have hj0 : j = 0 := by simpa using hj
                subst hj0
                rw [HD3.out.cell]
                match k, hk with
                  | 0, _ => rfl
                  | 1, _ => rfl
                  | 2, _ => rfl
                  | 3, _ => rfl
                  | 4, _ => rfl
                  | 5, _ => rfl
                  | 6, _ => rfl
                  | 7, _ => rfl
                  | 8, _ => rfl
                  | k + 9, h => exact absurd h (by simp)⟩⟩)
              go_wp2_with (at_builtin; refine wpList_push (tSlice tInt) rfl (.tmp 53) (.tmp 63) 56 rfl 23 i1 _ 24 Tryd.underlying56 hi1 hz01 hz11 hz21 rfl (by decide) (fun b => w.heap.size ≤ b) w4 (Of w4 w.heap.size 3) ls [1, 2, 3, 4, 5, 6, 7, 8, 9] [.slice (some ⟨w3.heap.size + 3, 0, none⟩) 9 9] _ rfl HO4.out _ rfl HY.out (fun b hb => Nat.le_trans HG4.out.size hb) (by simp only [maxLen]; omega) (by omega) ?_; intro v8 w8 hO_ hK_ hF_; have hfr8 : ∀ b, Of w4 w.heap.size 3 b → w8.heap[b]? = w4.heap[b]? := (fun b hb => by obtain ⟨_, cur, hb⟩ := hb; exact hF_ b _ cur hb (by decide)); have HO8 := hide (hO_.reAt (w1 := w8) (E1 := Of w8 w.heap.size 3) (fun b hb => hb.keep (hfr8 b hb)) hfr8); have HR8 := hide (HR4.out.only hK_ (fun b hb => by have := HlR.out; omega)); have HG8 := hide (gr_only HG4.out hK_ (fun _ h => h)); clear hO_ hK_ hF_ hfr8)
              go_ret
              exact ⟨_, _, rfl, by simp; omega, HO8.out.slAt (fun b hb => hb.old) (fun b hb => rfl) (fun b hb => hb.2), HR8.out.up (by omega), HG8.out⟩

/-- Lists that were drawn for a law. -/
def DrawnSL {α : Type} (T : Ty α) (n : Nat) (w : World) (en : Ending) (w' : World) : Prop := ∃ (xs : List α) (v : Value), en = .returned v ∧ xs.length ≤ n ∧ Sl T w' (Old w') xs v ∧ Below w.heap.size w w'
set_option maxHeartbeats 400000 in
theorem drawLists (bs : List Int) (A : Option Addr) (c : Nat) (w : World) (hl : bs.length ≤ 1048576) (hc : bs.length ≤ c) (hcm : c ≤ maxLen) (hA : Row tByte w (Old w) A bs) :
    Calls Tryd.prog 36 #[.slice A bs.length c] w (DrawnSL (tSlice tInt) 10 w) := by
  have HC := hide (open_any bs A c w hl hc hcm hA)
  clear hA
  go_enter Tryd.func36, Tryd.ntmps36
  go_wp2_with fail
  refine HC.out.mono ?_
  rintro e w1 ⟨R, rfl, hR0, hr1, hb1⟩
  have HB1 := hide hb1
  have HR1 := hide hr1
  clear hb1 hr1
  go_wp2_with fail
  refine (lists_any _ R 0 2 HR1.out (by omega) (by omega)).mono ?_
  rintro e w4 ⟨xs, v, rfl, hx, ho, hr4, hg4⟩
  have HB4 := hide (below_gr HB1.out hg4 HB1.out.size hR0)
  have HO := hide ho
  clear ho hr4 hg4
  go_wp2_with fail
  go_ret
  exact ⟨xs, v, rfl, hx, HO.out, HB4.out⟩
set_option maxHeartbeats 400000 in
theorem drawLongest (bs : List Int) (A : Option Addr) (c : Nat) (w : World) (hl : bs.length ≤ 1048576) (hc : bs.length ≤ c) (hcm : c ≤ maxLen) (hA : Row tByte w (Old w) A bs) :
    Calls Tryd.prog 39 #[.slice A bs.length c] w (DrawnSL (tSlice tInt) 10 w) := by
  have HC := hide (open_any bs A c w hl hc hcm hA)
  clear hA
  go_enter Tryd.func39, Tryd.ntmps39
  go_wp2_with fail
  refine HC.out.mono ?_
  rintro e w1 ⟨R, rfl, hR0, hr1, hb1⟩
  have HB1 := hide hb1
  have HR1 := hide hr1
  clear hb1 hr1
  go_wp2_with fail
  refine (lists_any _ R 0 9 HR1.out (by omega) (by omega)).mono ?_
  rintro e w4 ⟨xs, v, rfl, hx, ho, hr4, hg4⟩
  have HB4 := hide (below_gr HB1.out hg4 HB1.out.size hR0)
  have HO := hide ho
  clear ho hr4 hg4
  go_wp2_with fail
  go_ret
  exact ⟨xs, v, rfl, hx, HO.out, HB4.out⟩
set_option maxHeartbeats 400000 in
theorem drawAgree (bs : List Int) (A : Option Addr) (c : Nat) (w : World) (hl : bs.length ≤ 1048576) (hc : bs.length ≤ c) (hcm : c ≤ maxLen) (hA : Row tByte w (Old w) A bs) :
    Calls Tryd.prog 43 #[.slice A bs.length c] w (DrawnSL (tSlice tInt) 10 w) := by
  have HC := hide (open_any bs A c w hl hc hcm hA)
  clear hA
  go_enter Tryd.func43, Tryd.ntmps43
  go_wp2_with fail
  refine HC.out.mono ?_
  rintro e w1 ⟨R, rfl, hR0, hr1, hb1⟩
  have HB1 := hide hb1
  have HR1 := hide hr1
  clear hb1 hr1
  go_wp2_with fail
  refine (lists_any _ R 0 9 HR1.out (by omega) (by omega)).mono ?_
  rintro e w4 ⟨xs, v, rfl, hx, ho, hr4, hg4⟩
  have HB4 := hide (below_gr HB1.out hg4 HB1.out.size hR0)
  have HO := hide ho
  clear ho hr4 hg4
  go_wp2_with fail
  go_ret
  exact ⟨xs, v, rfl, hx, HO.out, HB4.out⟩
set_option maxHeartbeats 400000 in
theorem drawOrder (bs : List Int) (A : Option Addr) (c : Nat) (w : World) (hl : bs.length ≤ 1048576) (hc : bs.length ≤ c) (hcm : c ≤ maxLen) (hA : Row tByte w (Old w) A bs) :
    Calls Tryd.prog 46 #[.slice A bs.length c] w (DrawnSL (tSlice tInt) 10 w) := by
  have HC := hide (open_any bs A c w hl hc hcm hA)
  clear hA
  go_enter Tryd.func46, Tryd.ntmps46
  go_wp2_with fail
  refine HC.out.mono ?_
  rintro e w1 ⟨R, rfl, hR0, hr1, hb1⟩
  have HB1 := hide hb1
  have HR1 := hide hr1
  clear hb1 hr1
  go_wp2_with fail
  refine (lists_any _ R 0 9 HR1.out (by omega) (by omega)).mono ?_
  rintro e w4 ⟨xs, v, rfl, hx, ho, hr4, hg4⟩
  have HB4 := hide (below_gr HB1.out hg4 HB1.out.size hR0)
  have HO := hide ho
  clear ho hr4 hg4
  go_wp2_with fail
  go_ret
  exact ⟨xs, v, rfl, hx, HO.out, HB4.out⟩
end Go.Proofs.YtcfllpgppinofaaDoor
