/- DrawLinearRight: some calls, and some order. -/
import Derived.Test.YtpcghfeiehdapaaDoorCallsD
import Derived.Test.YtpcghfeiehdapaaDoorFLinS
namespace Go.Proofs.YtpcghfeiehdapaaDoor
open Go.RowKit
set_option linter.unusedVariables false
set_option linter.unusedSimpArgs false

def swapL (O : List Int) (a0 a1 : Int) : List Int := (O.set 0 a1).set 1 a0
theorem swapL_len (O : List Int) (a0 a1 : Int) : (swapL O a0 a1).length = O.length := by unfold swapL; rw [List.length_set, List.length_set]
theorem swap_row {O : List Int} {w : World} {g : Nat} {e : TypeId} {cur : Array Value} {a0 a1 : Int} (hB : Blk w g e cur) (hcs : O.length ≤ cur.size) (hcell : ∀ k (hk : k < O.length), cur[k]? = some (.int .i64 O[k])) (h0 : O[0]? = some a0) (h1 : O[1]? = some a1) :
    RowAt tInt ((w.setCell ⟨g, 0, none⟩ (.int .i64 a1)).setCell ⟨g, 1, none⟩ (.int .i64 a0)) (fun _ => False) g 0 (swapL O a0 a1) := fun k hk => by
  have hgt : 1 < O.length := (List.getElem?_eq_some_iff.1 h1).1
  rw [swapL_len] at hk
  refine ⟨_, rfl, fun j u hu => ?_⟩
  obtain ⟨hj, rfl⟩ := List.getElem?_eq_some_iff.1 hu
  have hj0 : j = 0 := by simpa using hj
  subst hj0
  rw [((hB.set_ 0 _).set_ 1 _).cell, Array.getElem?_setIfInBounds, Array.getElem?_setIfInBounds]
  have hs : (cur.setIfInBounds 0 (.int .i64 a1)).size = cur.size := by simp
  have e0 : 0 + k * tInt.size + 0 = k := by show 0 + k * 1 + 0 = k; omega
  rw [e0, hs]
  by_cases hk1 : k = 1
  · subst hk1
    rw [if_pos rfl, if_pos (by omega)]
    simp [swapL]
  · rw [if_neg (by omega)]
    by_cases hk0 : k = 0
    · subst hk0
      rw [if_pos rfl, if_pos (by omega)]
      simp [swapL]
    · rw [if_neg (by omega), hcell k hk]
      simp only [swapL, List.getElem_cons_zero]
      rw [List.getElem_set_ne (by omega), List.getElem_set_ne (by omega)]
def DrawnCO (w : World) (en : Ending) (w' : World) : Prop := ∃ (xs : List Call) (o : List Int) (v v2 : Value), en = .returned (.tuple #[v, v2]) ∧ xs.length ≤ 20 ∧ o.length ≤ 1000 ∧ Sl tCall w' (Old w') xs v ∧ Sl tInt w' (Old w') o v2 ∧ Below w.heap.size w w'
theorem below_gr_ {B : Nat} {a b w : World} {R : Nat} (h : Below B a b) (k : Gr b w R) (hB : B ≤ b.heap.size) (hR : B ≤ R) : Below B a w := below_gr h k hB hR
set_option maxRecDepth 10000 in
set_option maxHeartbeats 8000000 in
theorem drawLinearRight (bs : List Int) (A : Option Addr) (c : Nat) (w : World) (hl : bs.length ≤ 1048576) (hc : bs.length ≤ c) (hcm : c ≤ maxLen) (hA : Row tByte w (Old w) A bs) :
    Calls Tryd.prog 6 #[.slice A bs.length c] w (DrawnCO w) := by
  obtain ⟨i0, hi, hz0, hz1, hz2⟩ := info_parts infoInt_
  have HC := hide (open_any bs A c w hl hc hcm hA)
  clear hA
  go_enter Tryd.func6, Tryd.ntmps6
  go_wp2_with fail
  refine HC.out.mono ?_
  rintro e w1 ⟨R, rfl, hR0, hr1, hb1⟩
  have HB1 := hide hb1
  have HR1 := hide hr1
  have HRw := hide hR0
  have HRl := hide hr1.lt
  clear hb1 hr1
  go_wp2_with fail
  refine (calls_any _ R 0 12 HR1.out (by omega) (by omega)).mono ?_
  rintro e w4 ⟨xs, v, rfl, hx, ho, hr4, hg4⟩
  have HB4 := hide (below_gr HB1.out hg4 HB1.out.size hR0)
  have HR4 := hide (hr4.up (Q := 250) (by omega))
  obtain ⟨A4, c4, rfl, h41, h42, hrow4⟩ := ho.sl
  obtain ⟨l4, hl4⟩ : ∃ l4, l4 = w4.heap.size := ⟨_, rfl⟩
  have HX4 := hide (show Row tCall w4 (fun b => w1.heap.size ≤ b ∧ b < l4) A4 xs by rw [hl4]; exact hrow4.mono (fun b h => h) (fun _ _ => rfl))
  have HF := hide (specFindLinear xs A4 c4 w4 (by omega) (hrow4.mono (fun b h => h.2) (fun _ _ => rfl)))
  have HZ4 := hide (show l4 ≤ w4.heap.size by omega)
  have HR4l := hide hr4.lt
  clear ho hr4 hg4 hrow4 hl4 HB1 HR1 HC
  go_wp2_with fail
  refine HF.out.mono ?_
  rintro e w5 ⟨v5, rfl, hS5, hb5⟩
  obtain ⟨A5, c5, rfl, _, _, hr5⟩ := hS5
  have HOf := hide hr5
  have HX := hide (HX4.out.mono (w' := w5) (fun b h => h) (fun b h => hb5.block b (Nat.lt_of_lt_of_le h.2 HZ4.out)))
  have HR := hide (HR4.out.below hb5)
  have HB := hide (HB4.out.trans (hb5.mono HB4.out.size))
  have HZ := hide (Nat.le_trans HZ4.out hb5.size)
  clear hr5 hb5 HX4 HR4 HB4 HZ4 HF
  cases hfl : flF xs with
  | none =>
    have HBf := hide (show flB xs = false by unfold flB; rw [hfl]; rfl)
    rw [HBf.out]
    generalize flR xs = RR at HOf ⊢
    clear hfl HOf
    go_wp2_with fail
    refine (specNums xs.length w5 (by omega)).mono ?_
    rintro e wn ⟨vn, rfl, hOn, hbn⟩
    obtain ⟨An, cn, rfl, _, _, hrn⟩ := hOn.sl
    have HOr0 := hide (hrn.mono (S' := Old wn) (fun b h => h.2) (fun _ _ => rfl))
    have HXn := hide (HX.out.mono (w' := wn) (fun b h => h) (fun b h => hbn.block b (Nat.lt_of_lt_of_le h.2 HZ.out)))
    have HRn := hide ((HR.out.up (Q := 300) (by omega)).below hbn)
    have HBn := hide (HB.out.trans (hbn.mono HB.out.size))
    have HZn := hide (Nat.le_trans HZ.out hbn.size)
    have hnl := nums_len xs.length
    obtain ⟨O, hO⟩ : ∃ O, O = nums xs.length := ⟨_, rfl⟩
    rw [← hO] at HOr0 hnl ⊢
    have hOl : O.length ≤ 1000 := by omega
    have HOr := hide HOr0.out
    clear hnl hO HOr0 hOn hbn hrn HX HR HB HZ
    have HOe := hide (Own.empty (T := tInt) (e := 3) wn (fun b => wn.heap.size ≤ b) (Nat.le_refl _))
    have HRy := hide ((HOr.out.old ((Below.refl _ wn).alloc (Nat.le_refl _) (.cells #[] 3))).anyInt)
    go_upto_region 7 with (at_builtin; refine wpList_cat tInt rfl (.tmp 28) (.tmp 29) 24 rfl 3 i0 _ 8 Tryd.underlying24 hi hz0 hz1 hz2 rfl (by decide) (fun b => wn.heap.size ≤ b) (fun _ => False) [] O _ rfl HOe.out _ _ _ rfl rfl HRy.out (fun _ h => h.elim) (fun b hb => Nat.le_trans (by simp) hb) (by skip; simp only [maxLen, List.length_nil]; omega) (by skip; simp only [List.length_nil]; omega) ?_; intro v8 w8 hO_ hK_; have HO8 := hide hO_; have HB8 := hide (show Below wn.heap.size wn w8 from ((Only.of_alloc (K := fun b => wn.heap.size ≤ b) wn (.cells #[] 3)).trans hK_).below); clear hO_ hK_)
    have HX8 := hide (HXn.out.mono (w' := w8) (fun b h => h) (fun b h => HB8.out.block b (Nat.lt_of_lt_of_le h.2 HZn.out)))
    have HR8 := hide (HRn.out.below HB8.out)
    have HBw8 := hide (HBn.out.trans (HB8.out.mono HBn.out.size))
    obtain ⟨lo, hlo⟩ : ∃ lo, lo = wn.heap.size := ⟨_, rfl⟩
    have HO8 := hide (show Own tInt 3 w8 (fun b => lo ≤ b ∧ Old w8 b) O v8 by rw [hlo]; exact HO8.out)
    have HLo := hide (show R < lo ∧ l4 ≤ lo by rw [hlo]; exact ⟨HRn.out.lt, HZn.out⟩)
    have HZ8 := hide (show l4 ≤ w8.heap.size from Nat.le_trans HZn.out HB8.out.size)
    clear HOe HRy HXn HRn HBn HB8 HOr HZn hlo
    obtain ⟨A8, c8, hv8, h81, h82, _⟩ := HO8.out.sl
    subst hv8
    by_cases hgt : 1 < O.length
    · have hgd : decide ((O.length : Int) > 1) = true := decide_eq_true (by omega)
      have hgd2 : decide ((1 : Int) < (O.length : Int)) = true := decide_eq_true (by omega)
      go_wp2_with fail
      refine (pick_any w8 R 300 3 HR8.out (by omega)).mono ?_
      rintro e w9 ⟨z, rfl, hz0', hz1', hr9, hg9⟩
      have HO9 := hide (HO8.out.onlyGr hg9 (by have := HLo.out; omega))
      have HX9 := hide (HX8.out.mono (w' := w9) (fun b h => h) (fun b h => hg9.block b (Nat.lt_of_lt_of_le h.2 HZ8.out) (by have := HRl.out; have := h.1; intro e; injection e; omega)))
      have HBw9 := hide (below_gr HBw8.out hg9 HBw8.out.size HRw.out)
      have HZ9 := hide (Nat.le_trans HZ8.out hg9.size)
      clear hr9 hg9 hz1' HX8 HR8 HBw8 HO8
      cases hz : (z == 0) with
      | false =>
        go_wp2_with fail
        go_ret2
        exact ⟨xs, O, _, _, rfl, hx, by omega, ⟨A4, c4, rfl, h41, h42, HX9.out.mono (fun b h => Nat.lt_of_lt_of_le h.2 HZ9.out) (fun _ _ => rfl)⟩, HO9.out.oldRow, HBw9.out⟩
      | true =>
        have hrow := HO9.out
        rcases hrow with ⟨h, hnil⟩ | ⟨g, cap, cur, S', hv, hg, hB, h1, h2, h3, h4, h5⟩
        · subst hnil; simp at hgt
        · injection hv with hA8 _ hc8
          subst hA8
          have hcell : ∀ k (hk : k < O.length), cur[k]? = some (.int .i64 O[k]) := fun k hk => by
            obtain ⟨cs, hrel, hcs⟩ := h5 k hk
            obtain rfl : cs = [.int .i64 O[k]] := hrel
            have := hcs 0 _ rfl
            rw [hB.cell] at this
            simpa [tInt, flat] using this
          have hcs1 : O.length ≤ cur.size := by
            have h33 : cur.size = cap * 1 := h3
            omega
          obtain ⟨a0, ha0⟩ : ∃ a0, O[0]? = some a0 := ⟨_, List.getElem?_eq_getElem (by omega)⟩
          obtain ⟨a1, ha1⟩ : ∃ a1, O[1]? = some a1 := ⟨_, List.getElem?_eq_getElem hgt⟩
          have d0 : w9.cell? ⟨g, 0, none⟩ = some (.int .i64 a0) := by
            rw [hB.cell, hcell 0 (by omega), ← (List.getElem?_eq_some_iff.1 ha0).2]
          have d1 : w9.cell? ⟨g, 1, none⟩ = some (.int .i64 a1) := by
            rw [hB.cell, hcell 1 hgt, ← (List.getElem?_eq_some_iff.1 ha1).2]
          have f0 := hB.frozen 0
          have f1 := hB.frozen 1
          have HSw := hide (swap_row (O := O) hB hcs1 hcell ha0 ha1)
          have HG9 := hide (show lo ≤ g ∧ g < w9.heap.size from ⟨hg.1, hg.2⟩)
          have hgz : g < w9.heap.size := hg.2
          have hsl := swapL_len O a0 a1
          have HSl := hide hsl
          clear hB h5 hcell h4 HO9 ha0 ha1 hg hsl
          go_wp2_with fail
          go_ret2
          refine ⟨xs, swapL O a0 a1, _, _, rfl, hx, by rw [HSl.out]; omega, ⟨A4, c4, rfl, h41, h42, HX9.out.mono (fun b h => Nat.lt_of_lt_of_le h.2 (by simpa [World.setCell] using HZ9.out)) (fun b h => (Below.heap_setCell _ _ _ _ (by have := h.2; have := HLo.out; have := HG9.out; show b ≠ g; omega)).trans (Below.heap_setCell _ _ _ _ (by have := h.2; have := HLo.out; have := HG9.out; show b ≠ g; omega)))⟩, ⟨some ⟨g, 0, none⟩, cap, by rw [HSl.out]; rfl, by rw [HSl.out]; exact h1, h2, fun _ => ⟨g, 0, rfl, by unfold Old; simpa [World.setCell] using HG9.out.2, HSw.out.mono (fun b h => h.elim) (fun b h => h.elim) rfl⟩⟩, (HBw9.out.setCell (by have := HG9.out; have := HLo.out; have := HRw.out; show w.heap.size ≤ g; omega) _).setCell (by have := HG9.out; have := HLo.out; have := HRw.out; show w.heap.size ≤ g; omega) _⟩
    · have hgd : decide ((O.length : Int) > 1) = false := decide_eq_false (by omega)
      have hgd2 : decide ((1 : Int) < (O.length : Int)) = false := decide_eq_false (by omega)
      go_wp2_with fail
      go_ret2
      exact ⟨xs, O, _, _, rfl, hx, by omega, ⟨A4, c4, rfl, h41, h42, HX8.out.mono (fun b h => Nat.lt_of_lt_of_le h.2 HZ8.out) (fun _ _ => rfl)⟩, HO8.out.oldRow, HBw8.out⟩
  | some o =>
    have HBf := hide (show flB xs = true by unfold flB; rw [hfl]; rfl)
    have hol := sufL_len xs xs.length 0 0 o (by unfold flF at hfl; split at hfl; exact hfl; cases hfl)
    have HRo := hide (show flR xs = o by unfold flR; rw [hfl]; rfl)
    rw [HBf.out]
    rw [HRo.out] at HOf ⊢
    have ho20 : o.length ≤ 1000 := by omega
    clear hfl hol
    go_wp2_with fail
    refine (pick_any w5 R 250 3 HR.out (by omega)).mono ?_
    rintro e w6 ⟨y, rfl, hy0, hy1, hr6, hg6⟩
    have HOf6 := hide (HOf.out.mono (w' := w6) (S' := Old w6) (fun b h => Nat.lt_of_lt_of_le h.2 hg6.size) (fun b h => hg6.block b h.2 (by have := HR4l.out; have := h.1; intro e; injection e; omega)))
    have HX6 := hide (HX.out.mono (w' := w6) (fun b h => h) (fun b h => hg6.block b (Nat.lt_of_lt_of_le h.2 HZ.out) (by have := HRl.out; have := h.1; intro e; injection e; omega)))
    have HB6 := hide (below_gr HB.out hg6 HB.out.size HRw.out)
    have HZ6 := hide (Nat.le_trans HZ.out hg6.size)
    have HR6 := hide (hr6.up (Q := 300) (by omega))
    clear hr6 hg6 hy1 HOf HX HB HZ HR
    cases hy : (y == 0) with
    | true =>
      have HX := HX6; have HB := HB6; have HZ := HZ6; have HR := HR6
      clear HX6 HB6 HZ6 HR6 HOf6
      go_wp2_with fail
      refine (specNums xs.length w6 (by omega)).mono ?_
      rintro e wn ⟨vn, rfl, hOn, hbn⟩
      obtain ⟨An, cn, rfl, _, _, hrn⟩ := hOn.sl
      have HOr0 := hide (hrn.mono (S' := Old wn) (fun b h => h.2) (fun _ _ => rfl))
      have HXn := hide (HX.out.mono (w' := wn) (fun b h => h) (fun b h => hbn.block b (Nat.lt_of_lt_of_le h.2 HZ.out)))
      have HRn := hide (HR.out.below hbn)
      have HBn := hide (HB.out.trans (hbn.mono HB.out.size))
      have HZn := hide (Nat.le_trans HZ.out hbn.size)
      have hnl := nums_len xs.length
      obtain ⟨O, hO⟩ : ∃ O, O = nums xs.length := ⟨_, rfl⟩
      rw [← hO] at HOr0 hnl ⊢
      have hOl : O.length ≤ 1000 := by omega
      have HOr := hide HOr0.out
      clear hnl hO HOr0 hOn hbn hrn HX HR HB HZ
      have HOe := hide (Own.empty (T := tInt) (e := 3) wn (fun b => wn.heap.size ≤ b) (Nat.le_refl _))
      have HRy := hide ((HOr.out.old ((Below.refl _ wn).alloc (Nat.le_refl _) (.cells #[] 3))).anyInt)
      go_upto_region 7 with (at_builtin; refine wpList_cat tInt rfl (.tmp 28) (.tmp 29) 24 rfl 3 i0 _ 8 Tryd.underlying24 hi hz0 hz1 hz2 rfl (by decide) (fun b => wn.heap.size ≤ b) (fun _ => False) [] O _ rfl HOe.out _ _ _ rfl rfl HRy.out (fun _ h => h.elim) (fun b hb => Nat.le_trans (by simp) hb) (by skip; simp only [maxLen, List.length_nil]; omega) (by skip; simp only [List.length_nil]; omega) ?_; intro v8 w8 hO_ hK_; have HO8 := hide hO_; have HB8 := hide (show Below wn.heap.size wn w8 from ((Only.of_alloc (K := fun b => wn.heap.size ≤ b) wn (.cells #[] 3)).trans hK_).below); clear hO_ hK_)
      have HX8 := hide (HXn.out.mono (w' := w8) (fun b h => h) (fun b h => HB8.out.block b (Nat.lt_of_lt_of_le h.2 HZn.out)))
      have HR8 := hide (HRn.out.below HB8.out)
      have HBw8 := hide (HBn.out.trans (HB8.out.mono HBn.out.size))
      obtain ⟨lo, hlo⟩ : ∃ lo, lo = wn.heap.size := ⟨_, rfl⟩
      have HO8 := hide (show Own tInt 3 w8 (fun b => lo ≤ b ∧ Old w8 b) O v8 by rw [hlo]; exact HO8.out)
      have HLo := hide (show R < lo ∧ l4 ≤ lo by rw [hlo]; exact ⟨HRn.out.lt, HZn.out⟩)
      have HZ8 := hide (show l4 ≤ w8.heap.size from Nat.le_trans HZn.out HB8.out.size)
      clear HOe HRy HXn HRn HBn HB8 HOr HZn hlo
      obtain ⟨A8, c8, hv8, h81, h82, _⟩ := HO8.out.sl
      subst hv8
      by_cases hgt : 1 < O.length
      · have hgd : decide ((O.length : Int) > 1) = true := decide_eq_true (by omega)
        have hgd2 : decide ((1 : Int) < (O.length : Int)) = true := decide_eq_true (by omega)
        go_wp2_with fail
        refine (pick_any w8 R 300 3 HR8.out (by omega)).mono ?_
        rintro e w9 ⟨z, rfl, hz0', hz1', hr9, hg9⟩
        have HO9 := hide (HO8.out.onlyGr hg9 (by have := HLo.out; omega))
        have HX9 := hide (HX8.out.mono (w' := w9) (fun b h => h) (fun b h => hg9.block b (Nat.lt_of_lt_of_le h.2 HZ8.out) (by have := HRl.out; have := h.1; intro e; injection e; omega)))
        have HBw9 := hide (below_gr HBw8.out hg9 HBw8.out.size HRw.out)
        have HZ9 := hide (Nat.le_trans HZ8.out hg9.size)
        clear hr9 hg9 hz1' HX8 HR8 HBw8 HO8
        cases hz : (z == 0) with
        | false =>
          go_wp2_with fail
          go_ret2
          exact ⟨xs, O, _, _, rfl, hx, by omega, ⟨A4, c4, rfl, h41, h42, HX9.out.mono (fun b h => Nat.lt_of_lt_of_le h.2 HZ9.out) (fun _ _ => rfl)⟩, HO9.out.oldRow, HBw9.out⟩
        | true =>
          have hrow := HO9.out
          rcases hrow with ⟨h, hnil⟩ | ⟨g, cap, cur, S', hv, hg, hB, h1, h2, h3, h4, h5⟩
          · subst hnil; simp at hgt
          · injection hv with hA8 _ hc8
            subst hA8
            have hcell : ∀ k (hk : k < O.length), cur[k]? = some (.int .i64 O[k]) := fun k hk => by
              obtain ⟨cs, hrel, hcs⟩ := h5 k hk
              obtain rfl : cs = [.int .i64 O[k]] := hrel
              have := hcs 0 _ rfl
              rw [hB.cell] at this
              simpa [tInt, flat] using this
            have hcs1 : O.length ≤ cur.size := by
              have h33 : cur.size = cap * 1 := h3
              omega
            obtain ⟨a0, ha0⟩ : ∃ a0, O[0]? = some a0 := ⟨_, List.getElem?_eq_getElem (by omega)⟩
            obtain ⟨a1, ha1⟩ : ∃ a1, O[1]? = some a1 := ⟨_, List.getElem?_eq_getElem hgt⟩
            have d0 : w9.cell? ⟨g, 0, none⟩ = some (.int .i64 a0) := by
              rw [hB.cell, hcell 0 (by omega), ← (List.getElem?_eq_some_iff.1 ha0).2]
            have d1 : w9.cell? ⟨g, 1, none⟩ = some (.int .i64 a1) := by
              rw [hB.cell, hcell 1 hgt, ← (List.getElem?_eq_some_iff.1 ha1).2]
            have f0 := hB.frozen 0
            have f1 := hB.frozen 1
            have HSw := hide (swap_row (O := O) hB hcs1 hcell ha0 ha1)
            have HG9 := hide (show lo ≤ g ∧ g < w9.heap.size from ⟨hg.1, hg.2⟩)
            have hgz : g < w9.heap.size := hg.2
            have hsl := swapL_len O a0 a1
            have HSl := hide hsl
            clear hB h5 hcell h4 HO9 ha0 ha1 hg hsl
            go_wp2_with fail
            go_ret2
            refine ⟨xs, swapL O a0 a1, _, _, rfl, hx, by rw [HSl.out]; omega, ⟨A4, c4, rfl, h41, h42, HX9.out.mono (fun b h => Nat.lt_of_lt_of_le h.2 (by simpa [World.setCell] using HZ9.out)) (fun b h => (Below.heap_setCell _ _ _ _ (by have := h.2; have := HLo.out; have := HG9.out; show b ≠ g; omega)).trans (Below.heap_setCell _ _ _ _ (by have := h.2; have := HLo.out; have := HG9.out; show b ≠ g; omega)))⟩, ⟨some ⟨g, 0, none⟩, cap, by rw [HSl.out]; rfl, by rw [HSl.out]; exact h1, h2, fun _ => ⟨g, 0, rfl, by unfold Old; simpa [World.setCell] using HG9.out.2, HSw.out.mono (fun b h => h.elim) (fun b h => h.elim) rfl⟩⟩, (HBw9.out.setCell (by have := HG9.out; have := HLo.out; have := HRw.out; show w.heap.size ≤ g; omega) _).setCell (by have := HG9.out; have := HLo.out; have := HRw.out; show w.heap.size ≤ g; omega) _⟩
      · have hgd : decide ((O.length : Int) > 1) = false := decide_eq_false (by omega)
        have hgd2 : decide ((1 : Int) < (O.length : Int)) = false := decide_eq_false (by omega)
        go_wp2_with fail
        go_ret2
        exact ⟨xs, O, _, _, rfl, hx, by omega, ⟨A4, c4, rfl, h41, h42, HX8.out.mono (fun b h => Nat.lt_of_lt_of_le h.2 HZ8.out) (fun _ _ => rfl)⟩, HO8.out.oldRow, HBw8.out⟩
    | false =>
      obtain ⟨O, hO⟩ : ∃ O, O = o := ⟨_, rfl⟩
      have HOr := hide (show Row tInt w6 (Old w6) A5 O by rw [hO]; exact HOf6.out)
      have HXn := HX6; have HBn := HB6; have HZn := HZ6; have HRn := HR6
      rw [← hO] at ho20 ⊢
      have hOl := ho20
      clear HX6 HB6 HZ6 HR6 HOf6 HRo hO
      have HOe := hide (Own.empty (T := tInt) (e := 3) w6 (fun b => w6.heap.size ≤ b) (Nat.le_refl _))
      have HRy := hide ((HOr.out.old ((Below.refl _ w6).alloc (Nat.le_refl _) (.cells #[] 3))).anyInt)
      go_upto_region 7 with (at_builtin; refine wpList_cat tInt rfl (.tmp 28) (.tmp 29) 24 rfl 3 i0 _ 8 Tryd.underlying24 hi hz0 hz1 hz2 rfl (by decide) (fun b => w6.heap.size ≤ b) (fun _ => False) [] O _ rfl HOe.out _ _ _ rfl rfl HRy.out (fun _ h => h.elim) (fun b hb => Nat.le_trans (by simp) hb) (by skip; simp only [maxLen, List.length_nil]; omega) (by skip; simp only [List.length_nil]; omega) ?_; intro v8 w8 hO_ hK_; have HO8 := hide hO_; have HB8 := hide (show Below w6.heap.size w6 w8 from ((Only.of_alloc (K := fun b => w6.heap.size ≤ b) w6 (.cells #[] 3)).trans hK_).below); clear hO_ hK_)
      have HX8 := hide (HXn.out.mono (w' := w8) (fun b h => h) (fun b h => HB8.out.block b (Nat.lt_of_lt_of_le h.2 HZn.out)))
      have HR8 := hide (HRn.out.below HB8.out)
      have HBw8 := hide (HBn.out.trans (HB8.out.mono HBn.out.size))
      obtain ⟨lo, hlo⟩ : ∃ lo, lo = w6.heap.size := ⟨_, rfl⟩
      have HO8 := hide (show Own tInt 3 w8 (fun b => lo ≤ b ∧ Old w8 b) O v8 by rw [hlo]; exact HO8.out)
      have HLo := hide (show R < lo ∧ l4 ≤ lo by rw [hlo]; exact ⟨HRn.out.lt, HZn.out⟩)
      have HZ8 := hide (show l4 ≤ w8.heap.size from Nat.le_trans HZn.out HB8.out.size)
      clear HOe HRy HXn HRn HBn HB8 HOr HZn hlo
      obtain ⟨A8, c8, hv8, h81, h82, _⟩ := HO8.out.sl
      subst hv8
      by_cases hgt : 1 < O.length
      · have hgd : decide ((O.length : Int) > 1) = true := decide_eq_true (by omega)
        have hgd2 : decide ((1 : Int) < (O.length : Int)) = true := decide_eq_true (by omega)
        go_wp2_with fail
        refine (pick_any w8 R 300 3 HR8.out (by omega)).mono ?_
        rintro e w9 ⟨z, rfl, hz0', hz1', hr9, hg9⟩
        have HO9 := hide (HO8.out.onlyGr hg9 (by have := HLo.out; omega))
        have HX9 := hide (HX8.out.mono (w' := w9) (fun b h => h) (fun b h => hg9.block b (Nat.lt_of_lt_of_le h.2 HZ8.out) (by have := HRl.out; have := h.1; intro e; injection e; omega)))
        have HBw9 := hide (below_gr HBw8.out hg9 HBw8.out.size HRw.out)
        have HZ9 := hide (Nat.le_trans HZ8.out hg9.size)
        clear hr9 hg9 hz1' HX8 HR8 HBw8 HO8
        cases hz : (z == 0) with
        | false =>
          go_wp2_with fail
          go_ret2
          exact ⟨xs, O, _, _, rfl, hx, by omega, ⟨A4, c4, rfl, h41, h42, HX9.out.mono (fun b h => Nat.lt_of_lt_of_le h.2 HZ9.out) (fun _ _ => rfl)⟩, HO9.out.oldRow, HBw9.out⟩
        | true =>
          have hrow := HO9.out
          rcases hrow with ⟨h, hnil⟩ | ⟨g, cap, cur, S', hv, hg, hB, h1, h2, h3, h4, h5⟩
          · subst hnil; simp at hgt
          · injection hv with hA8 _ hc8
            subst hA8
            have hcell : ∀ k (hk : k < O.length), cur[k]? = some (.int .i64 O[k]) := fun k hk => by
              obtain ⟨cs, hrel, hcs⟩ := h5 k hk
              obtain rfl : cs = [.int .i64 O[k]] := hrel
              have := hcs 0 _ rfl
              rw [hB.cell] at this
              simpa [tInt, flat] using this
            have hcs1 : O.length ≤ cur.size := by
              have h33 : cur.size = cap * 1 := h3
              omega
            obtain ⟨a0, ha0⟩ : ∃ a0, O[0]? = some a0 := ⟨_, List.getElem?_eq_getElem (by omega)⟩
            obtain ⟨a1, ha1⟩ : ∃ a1, O[1]? = some a1 := ⟨_, List.getElem?_eq_getElem hgt⟩
            have d0 : w9.cell? ⟨g, 0, none⟩ = some (.int .i64 a0) := by
              rw [hB.cell, hcell 0 (by omega), ← (List.getElem?_eq_some_iff.1 ha0).2]
            have d1 : w9.cell? ⟨g, 1, none⟩ = some (.int .i64 a1) := by
              rw [hB.cell, hcell 1 hgt, ← (List.getElem?_eq_some_iff.1 ha1).2]
            have f0 := hB.frozen 0
            have f1 := hB.frozen 1
            have HSw := hide (swap_row (O := O) hB hcs1 hcell ha0 ha1)
            have HG9 := hide (show lo ≤ g ∧ g < w9.heap.size from ⟨hg.1, hg.2⟩)
            have hgz : g < w9.heap.size := hg.2
            have hsl := swapL_len O a0 a1
            have HSl := hide hsl
            clear hB h5 hcell h4 HO9 ha0 ha1 hg hsl
            go_wp2_with fail
            go_ret2
            refine ⟨xs, swapL O a0 a1, _, _, rfl, hx, by rw [HSl.out]; omega, ⟨A4, c4, rfl, h41, h42, HX9.out.mono (fun b h => Nat.lt_of_lt_of_le h.2 (by simpa [World.setCell] using HZ9.out)) (fun b h => (Below.heap_setCell _ _ _ _ (by have := h.2; have := HLo.out; have := HG9.out; show b ≠ g; omega)).trans (Below.heap_setCell _ _ _ _ (by have := h.2; have := HLo.out; have := HG9.out; show b ≠ g; omega)))⟩, ⟨some ⟨g, 0, none⟩, cap, by rw [HSl.out]; rfl, by rw [HSl.out]; exact h1, h2, fun _ => ⟨g, 0, rfl, by unfold Old; simpa [World.setCell] using HG9.out.2, HSw.out.mono (fun b h => h.elim) (fun b h => h.elim) rfl⟩⟩, (HBw9.out.setCell (by have := HG9.out; have := HLo.out; have := HRw.out; show w.heap.size ≤ g; omega) _).setCell (by have := HG9.out; have := HLo.out; have := HRw.out; show w.heap.size ≤ g; omega) _⟩
      · have hgd : decide ((O.length : Int) > 1) = false := decide_eq_false (by omega)
        have hgd2 : decide ((1 : Int) < (O.length : Int)) = false := decide_eq_false (by omega)
        go_wp2_with fail
        go_ret2
        exact ⟨xs, O, _, _, rfl, hx, by omega, ⟨A4, c4, rfl, h41, h42, HX8.out.mono (fun b h => Nat.lt_of_lt_of_le h.2 HZ8.out) (fun _ _ => rfl)⟩, HO8.out.oldRow, HBw8.out⟩
end Go.Proofs.YtpcghfeiehdapaaDoor
