/- l20Turns and DrawScheduleValid: some list of numbers, in memory of the call's own. -/
import Derived.Test.YtcfllpgppinofaaDoorPut
import Derived.Test.YtcfllpgppinofaaDoorToA
namespace Go.Proofs.YtcfllpgppinofaaDoor
open Go.RowKit
set_option linter.unusedVariables false

/-- A list that was drawn: new memory; the reader has gone on. -/
def Drawn {α : Type} (T : Ty α) (e : TypeId) (w : World) (R P n : Nat) (en : Ending) (w' : World) : Prop :=
  ∃ (xs : List α) (v : Value), en = .returned v ∧ xs.length ≤ n ∧ Own T e w' (New w w') xs v ∧ Rd w' R P ∧ Gr w w' R

set_option maxRecDepth 10000 in
set_option maxHeartbeats 2000000 in
theorem turns_any (w : World) (R P : Nat) (many n : Int) (h : Rd w R P) (hP : P ≤ 1000) (hm : many ≤ 1000000) (hn : n ≤ 1000000) :
    Calls Tryd.prog 58 #[.pointer (some ⟨R, 0, none⟩), .int .i64 many, .int .i64 n] w (Drawn tInt 3 w R (P + 100) 100) := by
  obtain ⟨i0, hi, hz0, hz1, hz2⟩ := info_parts infoInt_
  have HR0 := hide (h.alloc (.cells #[] 3))
  have HlR := hide h.lt
  have HP := hide hP
  clear h hP
  go_enter Tryd.func58, Tryd.ntmps58
  go_wp2_with fail
  refine (pick_any _ R P 21 HR0.out (by have := HP.out; omega)).mono ?_
  rintro e w1 ⟨k0, rfl, hk0, hk1, hr1, hg1⟩
  have hk2 := hk1 (by decide)
  have HR1 := hide hr1
  have HG1 := hide (gr_trans (gr_alloc (gr_refl w R) (.cells #[] 3)) hg1)
  have HO1 := hide (Own.onlyGr (Own.made (T := tInt) (e := 3) w (S := fun b => w.heap.size ≤ b ∧ Old (w.alloc (.cells #[] 3)) b) #[] 0 (by simp) (by simp [maxLen]) ⟨Nat.le_refl _, by simp [Old]⟩) hg1 (by have := HlR.out; omega))
  clear hr1 hg1 hk1
  obtain ⟨kk0, rfl⟩ : ∃ kk : Nat, k0 = (kk : Int) := ⟨k0.toNat, by omega⟩
  have hk20 : kk0 ≤ 20 := by omega
  clear hk2 hk0
  go_wp2_with fail
  go_loopw [7, 8] (fun v k wr => ∃ (kk : Nat) (xs : List Int), k = .int .i64 kk ∧ kk ≤ 20 ∧ Hid (xs.length + kk ≤ 20) ∧ Hid (Own tInt 3 wr (fun b => w.heap.size ≤ b ∧ Old wr b) xs v) ∧ Hid (Rd wr R (P + 21 - kk)) ∧ Hid (Gr w wr R)) (fun _ k _ => (intOf k).toNat)
  case atStart => exact ⟨kk0, [], rfl, hk20, by simpa [Hid] using hk20, HO1.out, HR1.out.up (by omega), HG1.out⟩
  case round =>
    obtain ⟨kk, xs, rfl, hk, hxl, hO, hR, hG⟩ := hrel
    clear HO1 HR1 HG1 HR0
    by_cases hgo : 0 < (kk : Int) ∧ 0 < many
    · obtain ⟨hk0, hm0⟩ := hgo
      go_wp2_with fail
      refine (pick_any _ R (P + 21 - kk) many hR.out (by have := HP.out; omega)).mono ?_
      rintro e w2 ⟨y, rfl, _, _, hr2, hg2⟩
      have HR2 := hide hr2
      have HG2 := hide (gr_trans hG.out hg2)
      have HO2 := hide (Own.onlyGr hO.out hg2 (by have := HlR.out; omega))
      clear hr2 hg2 hO hR hG
      go_wp2_with (at_builtin; refine wpList_put tInt rfl (.tmp 20) (.tmp 24) 23 rfl 3 i0 _ 8 Tryd.underlying23 hi hz0 hz1 hz2 rfl (by decide) (fun b => w.heap.size ≤ b) (fun _ => False) xs y _ _ rfl HO2.out _ rfl rfl (fun _ h => h.elim) (fun b hb => Nat.le_trans HG2.out.size hb) (by have := hxl.out; simp only [maxLen]; omega) (by have := hxl.out; omega) ?_; intro v' w3 hO3 hK3; have HO3 := hide hO3; have HR3 := hide (HR2.out.only hK3 (fun b hb => by have := HlR.out; omega)); have HG3 := hide (gr_only HG2.out hK3 (fun _ h => h)); clear hO3 hK3)
      go_roundw
      case rel => exact ⟨kk - 1, xs ++ [y], by go_num, by omega, by show _ ≤ 20; have := hxl.out; simp; omega, HO3.out, HR3.out.up (by omega), HG3.out⟩
      case measure => simp [intOf]; omega
    · have hexit : ¬ 0 < (kk : Int) ∨ (0 < (kk : Int) ∧ ¬ 0 < many) := by omega
      clear hgo
      rcases hexit with hx | ⟨hx, hy⟩
      all_goals
        go_wp2_with fail
        refine (odd_any wr R (P + 21 - kk) n hR.out (by have := HP.out; omega) hn).mono ?_
        rintro e w2 ⟨o, rfl, hr2, hg2⟩
        have HR2 := hide (hr2.up (Q := P + 22) (by omega))
        have HG2 := hide (gr_trans hG.out hg2)
        have HO2 := hide (Own.onlyGr hO.out hg2 (by have := HlR.out; omega))
        clear hr2 hg2 hO hR hG
        cases o with
        | false =>
          go_wp2_with fail
          go_ret
          exact ⟨xs, _, rfl, by have := hxl.out; omega, HO2.out, HR2.out.up (by omega), HG2.out⟩
        | true =>
          go_wp2_with fail
          refine (pick_any _ R (P + 22) 3 HR2.out (by have := HP.out; omega)).mono ?_
          rintro e w3 ⟨y, rfl, hy0, hy1, hr3, hg3⟩
          have HR3 := hide hr3
          have HG3 := hide (gr_trans HG2.out hg3)
          have HO3 := hide (Own.onlyGr HO2.out hg3 (by have := HlR.out; omega))
          clear hr3 hg3
          have hy3 : y = 0 ∨ y = 1 ∨ y = 2 := by have := hy1 (by decide); omega
          clear hy0 hy1
          rcases hy3 with rfl | rfl | rfl
          · go_wp2_with (at_builtin; refine wpList_put tInt rfl (.tmp 34) (.tmp 36) 23 rfl 3 i0 _ 8 Tryd.underlying23 hi hz0 hz1 hz2 rfl (by decide) (fun b => w.heap.size ≤ b) (fun _ => False) xs many _ _ rfl HO3.out _ rfl rfl (fun _ h => h.elim) (fun b hb => Nat.le_trans HG3.out.size hb) (by have := hxl.out; simp only [maxLen]; omega) (by have := hxl.out; omega) ?_; intro v' w4 hO4 hK4; have HO4 := hide hO4; have HR4 := hide (HR3.out.only hK4 (fun b hb => by have := HlR.out; omega)); have HG4 := hide (gr_only HG3.out hK4 (fun _ h => h)); clear hO4 hK4)
            go_ret
            exact ⟨_, _, rfl, by have := hxl.out; simp; omega, HO4.out, HR4.out.up (by omega), HG4.out⟩
          · go_wp2_with (at_builtin; refine wpList_put tInt rfl (.tmp 40) (.tmp 41) 23 rfl 3 i0 _ 8 Tryd.underlying23 hi hz0 hz1 hz2 rfl (by decide) (fun b => w.heap.size ≤ b) (fun _ => False) xs (-1) _ _ rfl HO3.out _ rfl rfl (fun _ h => h.elim) (fun b hb => Nat.le_trans HG3.out.size hb) (by have := hxl.out; simp only [maxLen]; omega) (by have := hxl.out; omega) ?_; intro v' w4 hO4 hK4; have HO4 := hide hO4; have HR4 := hide (HR3.out.only hK4 (fun b hb => by have := HlR.out; omega)); have HG4 := hide (gr_only HG3.out hK4 (fun _ h => h)); clear hO4 hK4)
            go_ret
            exact ⟨_, _, rfl, by have := hxl.out; simp; omega, HO4.out, HR4.out.up (by omega), HG4.out⟩
          · have hmk : ∀ W : World, (Instr.makeSlice 23 (.int .i64 41) (.int .i64 41)).run Tryd.prog W = .ok (.slice (some ⟨W.heap.size, 0, none⟩) 41 41) (W.alloc (.cells (madeCells #[.int .i64 0] 41) 3)) := fun W => by
              have h := run_make_rowN (P := Tryd.prog) 23 3 i0 (.int .i64 0) Tryd.underlying23 hi hz0 .i64 .i64 41 41 (Nat.le_refl _) (by rw [hz2]; omega) (by omega) W
              rw [hz1] at h
              exact h
            have HOz := hide (own_zeros (e := 3) w3 (S := fun b => w.heap.size ≤ b ∧ Old (w3.alloc (.cells (madeCells #[.int .i64 0] 41) 3)) b) 41 (by simp [maxLen]) ⟨HG3.out.size, by simp [Old]⟩)
            have HRz := hide (HR3.out.alloc (.cells (madeCells #[.int .i64 0] 41) 3))
            have HGz := hide (gr_alloc HG3.out (.cells (madeCells #[.int .i64 0] 41) 3))
            go_wp2_with fail
            go_ret
            exact ⟨_, _, rfl, by simp, HOz.out, HRz.out.up (by omega), HGz.out⟩

/-- What DrawScheduleValid answers. -/
def DrawnSched (w : World) (e : Ending) (w' : World) : Prop := ∃ (many : Int) (xs : List Int) (v : Value), e = .returned (.tuple #[.int .i64 many, v]) ∧ xs.length ≤ 100 ∧ Own tInt 3 w' (New w w') xs v ∧ Below w.heap.size w w'
theorem drawSched (bs : List Int) (A : Option Addr) (c : Nat) (w : World) (hl : bs.length ≤ 1048576) (hc : bs.length ≤ c) (hcm : c ≤ maxLen) (hA : Row tByte w (Old w) A bs) :
    Calls Tryd.prog 20 #[.slice A bs.length c] w (DrawnSched w) := by
  have HC := hide (open_any bs A c w hl hc hcm hA)
  clear hA
  go_enter Tryd.func20, Tryd.ntmps20
  go_wp2_with fail
  refine HC.out.mono ?_
  rintro e w1 ⟨R, rfl, hR0, hr1, hb1⟩
  go_wp2_with fail
  refine (pick_any _ R 0 6 hr1 (by omega)).mono ?_
  rintro e w2 ⟨m, rfl, hm0, hm1, hr2, hg2⟩
  have HB2 := hide (below_gr hb1 hg2 hb1.size hR0)
  have HR2 := hide hr2
  have hm6 : m < 6 := hm1 (by decide)
  clear hm1 hr2 hg2 hr1 hb1
  go_wp2_with fail
  refine (turns_any _ R 1 m 3 HR2.out (by omega) (by omega) (by omega)).mono ?_
  rintro e w3 ⟨xs, v, rfl, hx, ho, hr3, hg3⟩
  have HB3 := hide (below_gr HB2.out hg3 HB2.out.size hR0)
  have HO := hide ho
  have HB2s := hide HB2.out.size
  clear ho hr3 hg3
  go_wp2_with fail
  go_ret2
  exact ⟨_, xs, v, rfl, hx, HO.out.mono (fun b h => ⟨Nat.le_trans HB2s.out h.1, h.2⟩) (fun _ _ => rfl), HB3.out⟩
end Go.Proofs.YtcfllpgppinofaaDoor
