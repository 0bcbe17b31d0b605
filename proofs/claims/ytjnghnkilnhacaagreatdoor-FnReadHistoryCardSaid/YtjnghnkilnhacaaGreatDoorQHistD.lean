/- l20History: some history. -/
import Derived.Test.YtjnghnkilnhacaaGreatDoorQHBox
import Derived.Deep.CutRange
namespace Go.Proofs.YtjnghnkilnhacaaGreatDoor
open Go.RowKit
set_option linter.unusedVariables false
set_option linter.unusedSimpArgs false

theorem infoOpD : (Tryz.prog.info? 46).map (fun i => (i.zero, i.size, i.bytes)) = some (some (.agg #[.int .i64 0, .int .i64 0, .int .i64 0]), 3, 24) := by kernel_rfl
theorem infoTxnD : (Tryz.prog.info? 41).map (fun i => (i.zero, i.size, i.bytes)) = some (some (.agg #[.int .i64 0, .slice none 0 0, .bool false]), 3, 40) := by kernel_rfl
theorem Row.anyInt_ {w : World} {S : Nat → Prop} {A : Option Addr} {xs : List Int} (h : Row tInt w S A xs) : RowAny tInt w (fun _ => False) A xs := fun hp => by
  obtain ⟨b, off, hA, _, hr⟩ := h hp
  exact ⟨b, off, hA, fun k hk => hr k hk⟩
theorem sl_op1 (w : World) (a b c : Int) : Sl tOp (w.alloc (.cells #[.int .i64 a, .int .i64 b, .int .i64 c] 46)) (fun x => x = w.heap.size) [⟨a, b, c⟩] (.slice (some ⟨w.heap.size, 0, none⟩) 1 1) :=
  ⟨_, 1, rfl, Nat.le_refl _, by simp [maxLen], fun _ => ⟨_, 0, rfl, rfl, fun k hk => by
    obtain rfl : k = 0 := by simpa using hk
    refine ⟨_, rfl, fun j u hu => ?_⟩
    rw [(Blk.new w _ _).cell]
    simpa [tOp] using hu⟩⟩
theorem sl_op2 (w : World) (a b c a2 b2 c2 : Int) : Sl tOp (w.alloc (.cells #[.int .i64 a, .int .i64 b, .int .i64 c, .int .i64 a2, .int .i64 b2, .int .i64 c2] 46)) (fun x => x = w.heap.size) [⟨a, b, c⟩, ⟨a2, b2, c2⟩] (.slice (some ⟨w.heap.size, 0, none⟩) 2 2) :=
  ⟨_, 2, rfl, Nat.le_refl _, by simp [maxLen], fun _ => ⟨_, 0, rfl, rfl, fun k hk => by
    have hk2 : k < 2 := by simpa using hk
    refine ⟨_, rfl, fun j u hu => ?_⟩
    rw [(Blk.new w _ _).cell]
    match k, hk2 with
    | 0, _ =>
      match j, hu with
      | 0, hu => exact hu
      | 1, hu => exact hu
      | 2, hu => exact hu
      | j + 3, hu => simp at hu
    | 1, _ =>
      match j, hu with
      | 0, hu => exact hu
      | 1, hu => exact hu
      | 2, hu => exact hu
      | j + 3, hu => simp at hu⟩⟩
theorem sl_zero7 (w : World) : Sl tTxn (w.alloc (.cells (madeCells #[.int .i64 0, .slice none 0 0, .bool false] 21) 41)) (fun x => x = w.heap.size) (List.replicate 7 ⟨0, [], false⟩) (.slice (some ⟨w.heap.size, 0, none⟩) 7 7) :=
  ⟨_, 7, by rw [List.length_replicate], by simp, by simp [maxLen], fun _ => ⟨_, 0, rfl, rfl, fun k hk => by
    have hk7 : k < 7 := by simpa using hk
    refine ⟨[.int .i64 0, .slice none 0 0, .bool false], ⟨.slice none 0 0, by rw [List.getElem_replicate], by rw [List.getElem_replicate]; exact ⟨none, 0, rfl, Nat.le_refl _, by simp [maxLen], Row.nil⟩⟩, fun j u hu => ?_⟩
    rw [(Blk.new w _ _).cell]
    rw [show madeCells #[.int .i64 0, .slice none 0 0, .bool false] 21 = #[.int .i64 0, .slice none 0 0, .bool false, .int .i64 0, .slice none 0 0, .bool false, .int .i64 0, .slice none 0 0, .bool false, .int .i64 0, .slice none 0 0, .bool false, .int .i64 0, .slice none 0 0, .bool false, .int .i64 0, .slice none 0 0, .bool false, .int .i64 0, .slice none 0 0, .bool false] by kernel_rfl]
    match j, hu with
    | 0, hu => (match k, hk7 with | 0, _ | 1, _ | 2, _ | 3, _ | 4, _ | 5, _ | 6, _ => exact hu)
    | 1, hu => (match k, hk7 with | 0, _ | 1, _ | 2, _ | 3, _ | 4, _ | 5, _ | 6, _ => exact hu)
    | 2, hu => (match k, hk7 with | 0, _ | 1, _ | 2, _ | 3, _ | 4, _ | 5, _ | 6, _ => exact hu)
    | j + 3, hu => simp at hu⟩⟩
/-- Some history, in memory of the call's own. -/
def DrawnH (w : World) (R P : Nat) (en : Ending) (w' : World) : Prop :=
  ∃ (xs : List Txn) (v : Value), en = .returned v ∧ xs.length ≤ 8 ∧ (∀ t ∈ xs, t.Ops.length ≤ 20) ∧ Sl tTxn w' (New w w') xs v ∧ Rd w' R P ∧ Gr w w' R

set_option maxRecDepth 10000 in
set_option maxHeartbeats 8000000 in
theorem history_any (w : World) (R P : Nat) (most n : Int) (h : Rd w R P) (hP : P ≤ 500) (hm0 : 0 ≤ most) (hm6 : most ≤ 6) (hn : n ≤ 1000000) :
    Calls Tryz.prog 18 #[.pointer (some ⟨R, 0, none⟩), .int .i64 most, .int .i64 n] w (DrawnH w R (P + 400)) := by
  obtain ⟨i0, hi, hz0, hz1, hz2⟩ := info_parts infoOpD
  obtain ⟨i1, hi1, hz01, hz11, hz21⟩ := info_parts infoTxnD
  obtain ⟨i2, hi2, hz02, hz12, hz22⟩ := info_parts infoInt_
  have HR0 := hide ((h.alloc (.cells #[] 41)).alloc (.cells (madeCells #[.int .i64 0] 3) 3))
  have HlR := hide h.lt
  have HP := hide hP
  have HG0 := hide (gr_alloc (gr_alloc (gr_refl w R) (.cells #[] 41)) (.cells (madeCells #[.int .i64 0] 3) 3))
  have HO0 := hide (Own.empty (T := tTxn) (e := 41) w (fun b => w.heap.size ≤ b ∧ b ≠ w.heap.size + 1) ⟨Nat.le_refl _, by omega⟩)
  have HS0 := hide (own_zeros (e := 3) (w.alloc (.cells #[] 41)) (S := fun b => b = w.heap.size + 1) 3 (by decide) (by simp))
  have hmk : ∀ W : World, (Instr.makeSlice 59 (.int .i64 3) (.int .i64 3)).run Tryz.prog W = .ok (.slice (some ⟨W.heap.size, 0, none⟩) 3 3) (W.alloc (.cells (madeCells #[.int .i64 0] 3) 3)) := fun W => by
    have h := run_make_rowN (P := Tryz.prog) 59 3 i2 _ Tryz.underlying59 hi2 hz02 .i64 .i64 3 3 (Nat.le_refl _) (by rw [hz22]; omega) (by omega) W
    rw [hz12] at h
    exact h
  have hmw : IntKind.i64.wrap (most + 1) = most + 1 := IntWalk.i64_in _ (by omega)
  clear h hP
  go_enter Tryz.func18, Tryz.ntmps18
  go_wp2_with fail
  refine (pick_any _ R P (most + 1) HR0.out (by have := HP.out; omega)).mono ?_
  rintro e w1 ⟨m, rfl, hk0, hk1, hr1, hg1⟩
  have HR1 := hide hr1
  have HG1 := hide (gr_trans HG0.out hg1)
  have HO1 := hide (Own.onlyGr (HO0.out.mono (w' := (w.alloc (.cells #[] 41)).alloc (.cells (madeCells #[.int .i64 0] 3) 3)) (fun b hb => ⟨hb.1, Nat.lt_of_lt_of_le hb.2 (by simp)⟩) (fun b hb => Below.heap_alloc _ _ _ hb.2)) hg1 (by have := HlR.out; omega))
  have HS1 := hide (show Sl tInt w1 (fun b => b = w.heap.size + 1) (List.replicate 3 0) (.slice (some ⟨w.heap.size + 1, 0, none⟩) 3 3) by simpa using HS0.out.sl.mono (w' := w1) (S' := fun b => b = w.heap.size + 1) (fun _ h => h) (fun b hb => hg1.block b (by subst hb; simp) (by have := HlR.out; intro e; injection e; omega)))
  have HZ1 := hide (show w.heap.size ≤ w.heap.size + 1 ∧ w.heap.size + 1 < w1.heap.size from ⟨by omega, by have := hg1.size; simp at this; omega⟩)
  have hk7 := hk1 (by omega)
  obtain ⟨kk0, rfl⟩ : ∃ n : Nat, m = (n : Int) := ⟨m.toNat, by omega⟩
  have hkk0 : kk0 ≤ 6 := by omega
  clear hk1 hr1 hg1 HG0 HR0 HO0 HS0 hk0 hk7 hmk hmw
  go_wp2_with fail
  go_loopw [7, 8, 9, 10] (fun v next store k wr => ∃ (kk nx gs : Nat) (xs : List Txn) (vo sv : Value) (ss : List Int), vo = v ∧ sv = store ∧ next = .int .i64 nx ∧ k = .int .i64 kk ∧ kk ≤ 6 ∧ nx + 4 * kk ≤ 100 ∧ ss.length = 3 ∧ Hid (xs.length + kk ≤ 6) ∧ Hid (∀ t ∈ xs, t.Ops.length ≤ 4) ∧ Hid (w.heap.size ≤ gs ∧ gs < wr.heap.size) ∧ Hid (Own tTxn 41 wr (fun b => (w.heap.size ≤ b ∧ b ≠ gs) ∧ Old wr b) xs v) ∧ Hid (Sl tInt wr (fun b => b = gs) ss store) ∧ Hid (Rd wr R (P + 300 - 40 * kk)) ∧ Hid (Gr w wr R)) (fun _ _ _ k _ => (intOf k).toNat)
  case atStart => exact ⟨kk0, 1, w.heap.size + 1, [], _, _, _, rfl, rfl, rfl, rfl, hkk0, by omega, rfl, by simpa [Hid] using hkk0, hide (show ∀ t ∈ ([] : List Txn), t.Ops.length ≤ 4 from fun t ht => by cases ht), HZ1.out, HO1.out, HS1.out, HR1.out.up (by omega), HG1.out⟩
  case round =>
    obtain ⟨kk, nx, gs, xs, vo, sv, ss, rfl, rfl, rfl, rfl, hk, hnx, hss, hxl, hxo, hZ, hO, hS, hR, hG⟩ := hrel
    clear HO1 HR1 HG1 HS1 HZ1
    by_cases hgo : 0 < (kk : Int)
    · have HLR := hide (show R < wr.heap.size from hR.out.lt)
      obtain ⟨As, csv, hse, hs1, hs2, hs3⟩ := hS.out
      rw [hss] at hse
      subst hse
      clear hs1 hs2 hs3
      go_wp2_with fail
      refine (pick_any _ R _ 3 hR.out (by have := HP.out; omega)).mono ?_
      rintro e w2 ⟨s, rfl, _, _, hr2, hg2⟩
      have HR2 := hide (hr2.alloc (.cells #[] 46))
      have HG2 := hide (gr_alloc hg2 (.cells #[] 46))
      have HB2 := hide (Blk.new w2 46 #[])
      have HZ2 := hide hg2.size
      clear hr2 hg2
      go_wp2_with fail
      refine (pick_any _ R _ 6 HR2.out (by have := HP.out; omega)).mono ?_
      rintro e w3 ⟨y, rfl, _, _, hr3, hg3⟩
      have HG3 := hide (gr_trans HG2.out hg3)
      have HZ3 := hide (show w2.heap.size < w3.heap.size by have := hg3.size; simp at this; omega)
      have HB3 := hide (show Blk w3 w2.heap.size 46 #[] from HB2.out.of (hg3.block _ (by simp) (fun e => by injection e with e; have := HLR.out; have := HZ2.out; omega)))
      obtain ⟨d, hd⟩ : ∃ d : Bool, d = decide (0 < y) := ⟨_, rfl⟩
      have HX0 := hide (show HB w (w3.alloc (.cells #[.int .i64 s, .slice (some ⟨w2.heap.size, 0, none⟩) 0 0, .bool d] 41)) R (P + 302 - 40 * kk) gs wr.heap.size xs vo ss (.slice As 3 csv) w3.heap.size #[.int .i64 s, .slice (some ⟨w2.heap.size, 0, none⟩) 0 0, .bool d] from
        ⟨(hr3.alloc _).up (by omega), gr_alloc (gr_trans hG.out HG3.out) _, (Own.mono hO.out (S2 := fun b => (w.heap.size ≤ b ∧ b ≠ gs) ∧ b < wr.heap.size) (fun _ h => h) (fun b hb => (Below.heap_alloc _ _ _ (Nat.lt_of_lt_of_le hb.2 HG3.out.size)).trans (HG3.out.block b hb.2 (fun e => by injection e with e; have := hb.1.1; have := HlR.out; omega)))),
          hS.out.mono (fun _ h => h) (fun b hb => (Below.heap_alloc _ _ _ (by have := hZ.out; have := HG3.out.size; omega)).trans (HG3.out.block b (by have := hZ.out; omega) (fun e => by injection e with e; have := HlR.out; have := hZ.out; omega))), Blk.new _ _ _, hZ.out.1, hZ.out.2, HG3.out.size, HlR.out⟩)
      have HU0 := hide (show Own tOp 46 w3 (fun b => (wr.heap.size ≤ b ∧ b ≠ w3.heap.size) ∧ Old w3 b) [] (.slice (some ⟨w2.heap.size, 0, none⟩) 0 0) from .inr ⟨w2.heap.size, 0, #[], fun _ => False, rfl, ⟨⟨HZ2.out, Nat.ne_of_lt HZ3.out⟩, HZ3.out⟩, HB3.out, by simp, by simp [maxLen], by simp, fun _ h => h.elim, fun i h => absurd h (by simp)⟩)
      have HLW := hide (show w.heap.size ≤ wr.heap.size from hG.out.size)
      clear hr3 hg3 hR hG hO hS HR2 HG2 HB2 HB3
      rw [hd] at HX0
      have HO4 := hide (show Own tInt 3 ((w3.alloc (.cells #[.int .i64 s, .slice (some ⟨w2.heap.size, 0, none⟩) 0 0, .bool (decide (0 < y))] 41)).alloc (.cells #[] 3)) (fun b => w3.heap.size < b ∧ Old ((w3.alloc (.cells #[.int .i64 s, .slice (some ⟨w2.heap.size, 0, none⟩) 0 0, .bool (decide (0 < y))] 41)).alloc (.cells #[] 3)) b) [] (.slice (some ⟨w3.heap.size + 1, 0, none⟩) 0 0) by simpa using Own.empty (T := tInt) (e := 3) (w3.alloc (.cells #[.int .i64 s, .slice (some ⟨w2.heap.size, 0, none⟩) 0 0, .bool (decide (0 < y))] 41)) (fun b => w3.heap.size < b) (by simp))
      have HRy := hide (show RowAny tInt ((w3.alloc (.cells #[.int .i64 s, .slice (some ⟨w2.heap.size, 0, none⟩) 0 0, .bool (decide (0 < y))] 41)).alloc (.cells #[] 3)) (fun _ => False) As ss from by
        obtain ⟨A, c, he, _, _, hr⟩ := (HX0.out.alloc (.cells #[] 3)).st
        injection he with e1
        subst e1
        exact hr.anyInt_)
      go_wp2_with (at_builtin; refine wpList_cat tInt rfl (.tmp 35) (.tmp 36) 59 rfl 3 i2 _ 8 Tryz.underlying59 hi2 hz02 hz12 hz22 rfl (by decide) (fun b => w3.heap.size < b) (fun _ => False) [] ss _ rfl HO4.out As 3 csv rfl hss.symm HRy.out (fun _ h => h.elim) (fun b hb => Nat.lt_of_lt_of_le (by simp; omega) hb) (by simp [maxLen, hss]) (by simp [hss]) ?_; intro v4 w4 hO_ hK_; obtain ⟨gq, cq, hq, hgq⟩ := hO_.form (by rw [List.nil_append, hss]; decide); rw [List.nil_append, hss] at hq; subst hq; have HGq := hide (show w3.heap.size < gq ∧ gq < w4.heap.size from hgq); clear hgq; have HO5 := hide hO_; have HK5 := hide hK_; clear hO_ hK_)
      obtain ⟨B, hB⟩ : ∃ B, B = w3.heap.size := ⟨_, rfl⟩
      have HX5 := hide ((HX0.out.alloc (.cells #[] 3)).only HK5.out (fun b hb => ⟨Nat.le_trans HG3.out.size (Nat.le_of_lt hb), Nat.ne_of_gt hb⟩))
      have HQ5 := hide (show Own tInt 3 w4 (fun b => b = gq) ss (.slice (some ⟨gq, 0, none⟩) 3 cq) from by simpa using HO5.out.alone)
      have HU5 := hide (HU0.out.mono (w' := w4) (S2 := fun b => (wr.heap.size ≤ b ∧ b ≠ w3.heap.size ∧ b ≠ gq) ∧ Old w4 b) (fun b hb => by
          have h1 : b < w3.heap.size := hb.2
          have h2 := HGq.out
          exact ⟨⟨hb.1.1, hb.1.2, by omega⟩, show b < _ by omega⟩) (fun b hb => by
          have h1 : b < w3.heap.size := hb.2
          exact (HK5.out.block b (by simp; omega) (by omega)).trans ((Below.heap_alloc _ _ _ (by simp; omega)).trans (Below.heap_alloc _ _ _ h1))))
      have HGB := hide (show B < gq ∧ gq < w4.heap.size by rw [hB]; exact HGq.out)
      have HLo := hide (show wr.heap.size ≤ B by rw [hB]; exact HG3.out.size)
      rw [← hB] at HX5 HU5 ⊢
      clear hB
      clear HX0 HO4 HRy HO5 HK5 HU0 HG3 HZ2 HZ3 HGq hd
      go_wp2_with fail
      refine (pick_any _ R _ 5 HX5.out.rd (by have := HP.out; omega)).mono ?_
      rintro e w5 ⟨j5, rfl, hj0, hj1, hr5, hg5⟩
      have hj4 := hj1 (by decide)
      obtain ⟨jj0, rfl⟩ : ∃ n : Nat, j5 = (n : Int) := ⟨j5.toNat, by omega⟩
      have hjl : jj0 ≤ 4 := by omega
      have HX6 := hide ((HX5.out.pick hr5 hg5).up (show P + 302 - 40 * kk + 1 ≤ P + 330 - 40 * kk - 6 * jj0 by omega))
      have HQ6 := hide (HQ5.out.mono (w' := w5) (S2 := fun b => b = gq) (fun _ h => h) (fun b hb => hg5.block b (by have := HGB.out; omega) (fun e => by injection e with e; have := HGB.out; have := HLo.out; have := HLR.out; omega)))
      have HU6 := hide (Own.onlyGr HU5.out hg5 (fun h => by have := HLR.out; omega))
      have HZ6 := hide (show B < gq ∧ gq < w5.heap.size from ⟨HGB.out.1, Nat.lt_of_lt_of_le HGB.out.2 hg5.size⟩)
      clear hr5 hg5 HX5 HQ5 HU5 HGB hj0 hj1 hj4
      go_wp2_with fail
      obtain ⟨lo, hlo⟩ : ∃ n, n = wr.heap.size := ⟨_, rfl⟩
      have HC6 := hide (show HC w w5 R (P + 330 - 40 * kk - 6 * jj0) gs lo xs vo ss (.slice As 3 csv) B #[.int .i64 s, .slice (some ⟨w2.heap.size, 0, none⟩) 0 0, .bool (decide (0 < y))] gq cq ss [] (.slice (some ⟨w2.heap.size, 0, none⟩) 0 0) by rw [hlo]; exact ⟨HX6.out, HQ6.out, HU6.out, HZ6.out⟩)
      rw [← hlo] at HLR HLW HLo
      clear HX6 HQ6 HU6 HZ6
      go_loopw [8, 13] (fun next j wt => ∃ (jj ny : Nat) (st : List Op) (u : Value) (qs : List Int), next = .int .i64 ny ∧ j = .int .i64 jj ∧ jj ≤ 4 ∧ ny + jj + 4 * (kk - 1) ≤ 100 ∧ qs.length = 3 ∧ Hid (st.length + jj ≤ 4) ∧ Hid (HC w wt R (P + 330 - 40 * kk - 6 * jj) gs lo xs vo ss (.slice As 3 csv) B #[.int .i64 s, u, .bool (decide (0 < y))] gq cq qs st u)) (fun _ j _ => (intOf j).toNat)
      case atStart => exact ⟨jj0, nx, [], _, ss, rfl, rfl, hjl, by omega, hss, by simpa [Hid] using hjl, HC6.out⟩
      case round =>
        obtain ⟨jj, ny, st, u, qs, rfl, rfl, hj, hny, hqs, hst, hC⟩ := hrel
        clear HC6
        by_cases hgo2 : 0 < (jj : Int)
        · have HC7 := hide (hC.out.alloc (.cells #[.int .i64 0, .int .i64 0, .int .i64 1, .int .i64 1, .int .i64 2] 3))
          have HB7 := hide (Blk.new wr 3 #[.int .i64 0, .int .i64 0, .int .i64 1, .int .i64 1, .int .i64 2])
          have HL7 := hide (show R < wr.heap.size by have := hC.out.lt; have := HLo.out; have := HLR.out; omega)
          go_wp2_with fail
          refine (pick_any _ R _ 5 HC7.out.hb.rd (by have := HP.out; omega)).mono ?_
          rintro e w8 ⟨y8, rfl, hy0, hy1, hr8, hg8⟩
          have hy5 := hy1 (by decide)
          obtain ⟨yn, rfl⟩ : ∃ n : Nat, y8 = (n : Int) := ⟨y8.toNat, by omega⟩
          have HC8 := hide (HC7.out.pick hr8 hg8)
          have hB8 := HB7.out.of (hg8.block _ (by simp) (fun e => by injection e with e; have := HL7.out; omega))
          obtain ⟨z, hz, hz3⟩ : ∃ z : Nat, w8.cell? ⟨wr.heap.size, yn, none⟩ = some (.int .i64 z) ∧ z < 3 := by
            rw [hB8.cell]
            match yn, hy5 with
            | 0, _ => exact ⟨0, rfl, by decide⟩
            | 1, _ => exact ⟨0, rfl, by decide⟩
            | 2, _ => exact ⟨1, rfl, by decide⟩
            | 3, _ => exact ⟨1, rfl, by decide⟩
            | 4, _ => exact ⟨2, rfl, by decide⟩
          have HZ8 := hide hz3
          clear hr8 hg8 HC7 HB7 hB8 hy1 hC hz3
          go_wp2_with fail
          refine (pick_any _ R _ 2 HC8.out.hb.rd (by have := HP.out; omega)).mono ?_
          rintro e w9 ⟨y9, rfl, _, _, hr9, hg9⟩
          have HC9 := hide (HC8.out.pick hr9 hg9)
          have hz3 := HZ8.out
          obtain ⟨cz, fz⟩ := HC9.out.hq.cellInt (k := z) (by rw [hqs]; exact hz3)
          have hz0' : (0 : Int) ≤ (z : Int) := by omega
          have hz3' : (z : Int) < 3 := by omega
          have hnyw : IntKind.i64.wrap ((ny : Int) + 1) = ((ny + 1 : Nat) : Int) := IntWalk.i64_in _ (by omega)
          have hjw : IntKind.i64.wrap ((jj : Int) - 1) = ((jj - 1 : Nat) : Int) := by rw [IntWalk.i64_in _ (by omega)]; omega
          clear hr9 hg9 HC8 hz
          by_cases h9 : y9 = 0
          · have h9' : (y9 == 0) = true := by simp [h9]
            go_upto_region 15 with (fail)
            have HC10 := hide (HC9.out.see (k := z) (by rw [hqs]; exact hz3) ny)
            generalize w9.setCell ⟨gq, z, none⟩ (.int .i64 (ny : Int)) = W at HC10 ⊢
            clear cz fz HC9
            have c1 := HC10.out.hb.blk.cell 1
            simp only [List.getElem?_toArray, List.getElem?_cons_zero, List.getElem?_cons_succ] at c1
            go_wp2_with (at_builtin; refine wpList_put tOp rfl (.tmp 57) (.tmp 61) 39 rfl 46 i0 _ 24 Tryz.underlying39 hi hz0 hz1 hz2 rfl (by decide) (fun b => lo ≤ b ∧ b ≠ B ∧ b ≠ gq) (fun _ => False) st ⟨2, z, ny⟩ [.int .i64 2, .int .i64 z, .int .i64 ny] _ rfl HC10.out.hu _ rfl rfl (fun _ h => h.elim) (fun b hb => by have h1 := HC10.out.lt; have h2 := HLo.out; exact ⟨by omega, by omega, by omega⟩) (by have := hst.out; simp only [maxLen]; omega) (by have := hst.out; omega) ?_; intro v11 w11 hO_ hK_; have HC11 := hide (HC10.out.put hK_ hO_); obtain ⟨A11, c11, h11, _⟩ := hO_.sl; obtain ⟨n11, hn11⟩ : ∃ n, n = (st ++ [(⟨2, z, ny⟩ : Op)]).length := ⟨_, rfl⟩; rw [← hn11] at h11; subst h11; clear hO_ hK_ hn11; have d1 := HC11.out.hb.blk.cell 1; have f1 := HC11.out.hb.blk.frozen 1; simp only [List.getElem?_toArray, List.getElem?_cons_zero, List.getElem?_cons_succ] at d1)
            go_roundw
            case rel => exact ⟨jj - 1, ny + 1, st ++ [(⟨2, z, ny⟩ : Op)], .slice A11 n11 c11, qs.set z ny, by go_num, by go_num, by omega, by omega, by rw [List.length_set]; exact hqs, by have := hst.out; show _ ≤ 4; simp; omega, hide ((HC11.out.set 1 (.slice A11 n11 c11)).up (by omega))⟩
            case measure => simp [intOf]; omega
          · have h9' : (y9 == 0) = false := by simp [h9]
            go_wp2_with fail
            have hny1 : IntKind.i64.wrap ((ny : Int) + 1) = (ny : Int) + 1 := IntWalk.i64_in _ (by omega)
            refine (pick_any _ R _ 5 HC9.out.hb.rd (by have := HP.out; omega)).mono ?_
            rintro e w12 ⟨y12, rfl, _, _, hr12, hg12⟩
            have HC12 := hide (HC9.out.pick hr12 hg12)
            generalize qs[z]'(by rw [hqs]; exact hz3) = x0 at cz
            clear hr12 hg12 HC9 cz fz hnyw
            by_cases h12 : y12 = 0
            · have h12' : (y12 == 0) = true := by simp [h12]
              go_wp2_with fail
              refine (pick_any _ R _ _ HC12.out.hb.rd (by have := HP.out; omega)).mono ?_
              rintro e w13 ⟨x1, rfl, _, _, hr13, hg13⟩
              have HC13 := hide (HC12.out.pick hr13 hg13)
              clear hr13 hg13 HC12
              go_wp2_with fail
              refine (pick_any _ R _ 2 HC13.out.hb.rd (by have := HP.out; omega)).mono ?_
              rintro e w14 ⟨y14, rfl, _, _, hr14, hg14⟩
              have HC14 := hide (HC13.out.pick hr14 hg14)
              clear hr14 hg14 HC13
              by_cases h14 : y14 = 0
              · have h14' : (y14 == 0) = true := by simp [h14]
                have c1 := HC14.out.hb.blk.cell 1
                simp only [List.getElem?_toArray, List.getElem?_cons_zero, List.getElem?_cons_succ] at c1
                go_wp2_with (at_builtin; refine wpList_put tOp rfl (.tmp 81) (.tmp 85) 39 rfl 46 i0 _ 24 Tryz.underlying39 hi hz0 hz1 hz2 rfl (by decide) (fun b => lo ≤ b ∧ b ≠ B ∧ b ≠ gq) (fun _ => False) st ⟨1, z, 0⟩ [.int .i64 1, .int .i64 z, .int .i64 0] _ rfl HC14.out.hu _ rfl rfl (fun _ h => h.elim) (fun b hb => by have h1 := HC14.out.lt; have h2 := HLo.out; exact ⟨by omega, by omega, by omega⟩) (by have := hst.out; simp only [maxLen]; omega) (by have := hst.out; omega) ?_; intro v11 w11 hO_ hK_; have HC11 := hide (HC14.out.put hK_ hO_); obtain ⟨A11, c11, h11, _⟩ := hO_.sl; obtain ⟨n11, hn11⟩ : ∃ n, n = (st ++ [(⟨1, z, 0⟩ : Op)]).length := ⟨_, rfl⟩; rw [← hn11] at h11; subst h11; clear hO_ hK_ hn11; have d1 := HC11.out.hb.blk.cell 1; have f1 := HC11.out.hb.blk.frozen 1; simp only [List.getElem?_toArray, List.getElem?_cons_zero, List.getElem?_cons_succ] at d1)
                go_roundw
                case rel => exact ⟨jj - 1, ny, st ++ [(⟨1, z, 0⟩ : Op)], .slice A11 n11 c11, qs, rfl, by go_num, by omega, by omega, hqs, by have := hst.out; show _ ≤ 4; simp; omega, hide ((HC11.out.set 1 (.slice A11 n11 c11)).up (by omega))⟩
                case measure => simp [intOf]; omega
              · have h14' : (y14 == 0) = false := by simp [h14]
                have c1 := HC14.out.hb.blk.cell 1
                simp only [List.getElem?_toArray, List.getElem?_cons_zero, List.getElem?_cons_succ] at c1
                go_wp2_with (at_builtin; refine wpList_put tOp rfl (.tmp 81) (.tmp 85) 39 rfl 46 i0 _ 24 Tryz.underlying39 hi hz0 hz1 hz2 rfl (by decide) (fun b => lo ≤ b ∧ b ≠ B ∧ b ≠ gq) (fun _ => False) st ⟨1, z, x1⟩ [.int .i64 1, .int .i64 z, .int .i64 x1] _ rfl HC14.out.hu _ rfl rfl (fun _ h => h.elim) (fun b hb => by have h1 := HC14.out.lt; have h2 := HLo.out; exact ⟨by omega, by omega, by omega⟩) (by have := hst.out; simp only [maxLen]; omega) (by have := hst.out; omega) ?_; intro v11 w11 hO_ hK_; have HC11 := hide (HC14.out.put hK_ hO_); obtain ⟨A11, c11, h11, _⟩ := hO_.sl; obtain ⟨n11, hn11⟩ : ∃ n, n = (st ++ [(⟨1, z, x1⟩ : Op)]).length := ⟨_, rfl⟩; rw [← hn11] at h11; subst h11; clear hO_ hK_ hn11; have d1 := HC11.out.hb.blk.cell 1; have f1 := HC11.out.hb.blk.frozen 1; simp only [List.getElem?_toArray, List.getElem?_cons_zero, List.getElem?_cons_succ] at d1)
                go_roundw
                case rel => exact ⟨jj - 1, ny, st ++ [(⟨1, z, x1⟩ : Op)], .slice A11 n11 c11, qs, rfl, by go_num, by omega, by omega, hqs, by have := hst.out; show _ ≤ 4; simp; omega, hide ((HC11.out.set 1 (.slice A11 n11 c11)).up (by omega))⟩
                case measure => simp [intOf]; omega
            · have h12' : (y12 == 0) = false := by simp [h12]
              have c1 := HC12.out.hb.blk.cell 1
              simp only [List.getElem?_toArray, List.getElem?_cons_zero, List.getElem?_cons_succ] at c1
              go_wp2_with (at_builtin; refine wpList_put tOp rfl (.tmp 81) (.tmp 85) 39 rfl 46 i0 _ 24 Tryz.underlying39 hi hz0 hz1 hz2 rfl (by decide) (fun b => lo ≤ b ∧ b ≠ B ∧ b ≠ gq) (fun _ => False) st ⟨1, z, x0⟩ [.int .i64 1, .int .i64 z, .int .i64 x0] _ rfl HC12.out.hu _ rfl rfl (fun _ h => h.elim) (fun b hb => by have h1 := HC12.out.lt; have h2 := HLo.out; exact ⟨by omega, by omega, by omega⟩) (by have := hst.out; simp only [maxLen]; omega) (by have := hst.out; omega) ?_; intro v11 w11 hO_ hK_; have HC11 := hide (HC12.out.put hK_ hO_); obtain ⟨A11, c11, h11, _⟩ := hO_.sl; obtain ⟨n11, hn11⟩ : ∃ n, n = (st ++ [(⟨1, z, x0⟩ : Op)]).length := ⟨_, rfl⟩; rw [← hn11] at h11; subst h11; clear hO_ hK_ hn11; have d1 := HC11.out.hb.blk.cell 1; have f1 := HC11.out.hb.blk.frozen 1; simp only [List.getElem?_toArray, List.getElem?_cons_zero, List.getElem?_cons_succ] at d1)
              go_roundw
              case rel => exact ⟨jj - 1, ny, st ++ [(⟨1, z, x0⟩ : Op)], .slice A11 n11 c11, qs, rfl, by go_num, by omega, by omega, hqs, by have := hst.out; show _ ≤ 4; simp; omega, hide ((HC11.out.set 1 (.slice A11 n11 c11)).up (by omega))⟩
              case measure => simp [intOf]; omega
        · obtain rfl : jj = 0 := by omega
          obtain ⟨Au, cu, hue, _⟩ := hC.out.hu.sl
          obtain ⟨nu, hnu⟩ : ∃ n, n = st.length := ⟨_, rfl⟩
          rw [← hnu] at hue
          subst hue
          clear hnu
          have hkw : IntKind.i64.wrap ((kk : Int) - 1) = ((kk - 1 : Nat) : Int) := by rw [IntWalk.i64_in _ (by omega)]; omega
          have HTx := hide (show ∀ d : Bool, ∀ t ∈ xs ++ [(⟨s, st, d⟩ : Txn)], t.Ops.length ≤ 4 from fun d t ht => by
            rcases List.mem_append.1 ht with h1 | h1
            · exact hxo.out t h1
            · rw [List.mem_singleton] at h1
              rw [h1]
              have := hst.out
              show st.length ≤ 4
              omega)
          have HTx := hide (fun d => hide (HTx.out d))
          generalize decide (0 < y) = d at hC ⊢
          have b2 := hC.out.hb.blk.cell 2
          simp only [List.getElem?_toArray, List.getElem?_cons_zero, List.getElem?_cons_succ] at b2
          cases d with
          | false =>
            have HOo := hide hC.out.out_old
            have HOw := hide (fun b (h : vo.ownBlock = some b) => (hC.out.hb.own.owned b h).2)
            have HSt := hide hC.out.hb.st
            have HRd := hide hC.out.hb.rd
            have HGr := hide hC.out.hb.gr
            have HLt := hide hC.out.lt
            have HGs := hide (show w.heap.size ≤ gs ∧ gs < lo ∧ lo ≤ B from ⟨hC.out.hb.gse, hC.out.hb.gsl, hC.out.hb.ge⟩)
            have HY := hide (hC.out.row s false)
            have c0 := hC.out.hb.blk.cell 0
            have c1 := hC.out.hb.blk.cell 1
            have c2 := hC.out.hb.blk.cell 2
            simp only [List.getElem?_toArray, List.getElem?_cons_zero, List.getElem?_cons_succ] at c0 c1 c2
            clear hC
            go_wp2_with (at_builtin; refine wpList_put tTxn rfl (.tmp 96) (.tmp 98) 23 rfl 41 i1 _ 40 Tryz.underlying23 hi1 hz01 hz11 hz21 rfl (by decide) (fun b => w.heap.size ≤ b ∧ b ≠ gs) (fun b => (lo ≤ b ∧ b ≠ B ∧ b ≠ gq) ∧ Old wr b) xs ⟨s, st, false⟩ [.int .i64 s, .slice Au nu cu, .bool false] _ rfl HOo.out _ rfl HY.out (fun b hb => ⟨by have h1 := HGs.out; have h2 := hb.1; omega, hb.2, fun e => by have h1 := HOw.out b e; have h2 := hb.1.1; omega⟩) (fun b hb => by have h1 := HGs.out; have h2 := HLt.out; omega) (by have := hxl.out; simp only [maxLen]; omega) (by have := hxl.out; omega) ?_; intro v8 w8 hO_ hK_; have HO8 := hide hO_; have HS8 := hide (HSt.out.mono (w' := w8) (S' := fun b => b = gs) (fun _ h => h) (fun b hb => hK_.block b (by have h1 := HGs.out; have h2 := HLt.out; omega) (fun e => e.2 hb))); have HR8 := hide (HRd.out.only hK_ (fun b hb => Nat.lt_of_lt_of_le HlR.out hb.1)); have HG8 := hide (gr_only HGr.out hK_ (fun b hb => hb.1)); have HZ8 := hide (show w.heap.size ≤ gs ∧ gs < w8.heap.size by have h1 := HGs.out; have h2 := HLt.out; have h3 := hK_.size; omega); clear hO_ hK_)
            go_roundw
            case rel => exact ⟨kk - 1, ny, gs, xs ++ [(⟨s, st, false⟩ : Txn)], v8, _, ss, rfl, rfl, rfl, by go_num, by omega, by omega, by first | exact hqs | exact hss, by have := hxl.out; show _ ≤ 6; simp; omega, HTx.out false, HZ8.out, HO8.out, HS8.out, hide (HR8.out.up (by omega)), HG8.out⟩
            case measure => simp [intOf]; omega
          | true =>
            go_wp2_with fail
            refine (pick_any _ R _ 3 hC.out.hb.rd (by have := HP.out; omega)).mono ?_
            rintro e w9 ⟨y9, rfl, _, _, hr9, hg9⟩
            have HC9 := hide (hC.out.pick hr9 hg9)
            clear hr9 hg9 hC b2
            by_cases h9 : 0 < y9
            · have h9' : decide (0 < y9) = true := by simp [h9]
              have HOo := hide HC9.out.out_new
              have HOw := hide (fun b (h : vo.ownBlock = some b) => (HC9.out.hb.own.owned b h).2)
              have HSt := hide HC9.out.hq.sl
              have HRd := hide HC9.out.hb.rd
              have HGr := hide HC9.out.hb.gr
              have HLt := hide HC9.out.lt
              have HGs := hide (show w.heap.size ≤ gs ∧ gs < lo ∧ lo ≤ B from ⟨HC9.out.hb.gse, HC9.out.hb.gsl, HC9.out.hb.ge⟩)
              have HY := hide (HC9.out.row s true)
              have c0 := HC9.out.hb.blk.cell 0
              have c1 := HC9.out.hb.blk.cell 1
              have c2 := HC9.out.hb.blk.cell 2
              simp only [List.getElem?_toArray, List.getElem?_cons_zero, List.getElem?_cons_succ] at c0 c1 c2
              clear HC9
              go_wp2_with (at_builtin; refine wpList_put tTxn rfl (.tmp 96) (.tmp 98) 23 rfl 41 i1 _ 40 Tryz.underlying23 hi1 hz01 hz11 hz21 rfl (by decide) (fun b => w.heap.size ≤ b ∧ b ≠ gq) (fun b => (lo ≤ b ∧ b ≠ B ∧ b ≠ gq) ∧ Old w9 b) xs ⟨s, st, true⟩ [.int .i64 s, .slice Au nu cu, .bool true] _ rfl HOo.out _ rfl HY.out (fun b hb => ⟨by have h1 := HGs.out; have h2 := hb.1; omega, hb.2, fun e => by have h1 := HOw.out b e; have h2 := hb.1.1; omega⟩) (fun b hb => by have h1 := HGs.out; have h2 := HLt.out; omega) (by have := hxl.out; simp only [maxLen]; omega) (by have := hxl.out; omega) ?_; intro v8 w8 hO_ hK_; have HO8 := hide hO_; have HS8 := hide (HSt.out.mono (w' := w8) (S' := fun b => b = gq) (fun _ h => h) (fun b hb => hK_.block b (by have h1 := HGs.out; have h2 := HLt.out; omega) (fun e => e.2 hb))); have HR8 := hide (HRd.out.only hK_ (fun b hb => Nat.lt_of_lt_of_le HlR.out hb.1)); have HG8 := hide (gr_only HGr.out hK_ (fun b hb => hb.1)); have HZ8 := hide (show w.heap.size ≤ gq ∧ gq < w8.heap.size by have h1 := HGs.out; have h2 := HLt.out; have h3 := hK_.size; omega); clear hO_ hK_)
              go_roundw
              case rel => exact ⟨kk - 1, ny, gq, xs ++ [(⟨s, st, true⟩ : Txn)], v8, _, qs, rfl, rfl, rfl, by go_num, by omega, by omega, by first | exact hqs | exact hss, by have := hxl.out; show _ ≤ 6; simp; omega, HTx.out true, HZ8.out, HO8.out, HS8.out, hide (HR8.out.up (by omega)), HG8.out⟩
              case measure => simp [intOf]; omega
            · have h9' : decide (0 < y9) = false := by simp [h9]
              have HOo := hide HC9.out.out_old
              have HOw := hide (fun b (h : vo.ownBlock = some b) => (HC9.out.hb.own.owned b h).2)
              have HSt := hide HC9.out.hb.st
              have HRd := hide HC9.out.hb.rd
              have HGr := hide HC9.out.hb.gr
              have HLt := hide HC9.out.lt
              have HGs := hide (show w.heap.size ≤ gs ∧ gs < lo ∧ lo ≤ B from ⟨HC9.out.hb.gse, HC9.out.hb.gsl, HC9.out.hb.ge⟩)
              have HY := hide (HC9.out.row s true)
              have c0 := HC9.out.hb.blk.cell 0
              have c1 := HC9.out.hb.blk.cell 1
              have c2 := HC9.out.hb.blk.cell 2
              simp only [List.getElem?_toArray, List.getElem?_cons_zero, List.getElem?_cons_succ] at c0 c1 c2
              clear HC9
              go_wp2_with (at_builtin; refine wpList_put tTxn rfl (.tmp 96) (.tmp 98) 23 rfl 41 i1 _ 40 Tryz.underlying23 hi1 hz01 hz11 hz21 rfl (by decide) (fun b => w.heap.size ≤ b ∧ b ≠ gs) (fun b => (lo ≤ b ∧ b ≠ B ∧ b ≠ gq) ∧ Old w9 b) xs ⟨s, st, true⟩ [.int .i64 s, .slice Au nu cu, .bool true] _ rfl HOo.out _ rfl HY.out (fun b hb => ⟨by have h1 := HGs.out; have h2 := hb.1; omega, hb.2, fun e => by have h1 := HOw.out b e; have h2 := hb.1.1; omega⟩) (fun b hb => by have h1 := HGs.out; have h2 := HLt.out; omega) (by have := hxl.out; simp only [maxLen]; omega) (by have := hxl.out; omega) ?_; intro v8 w8 hO_ hK_; have HO8 := hide hO_; have HS8 := hide (HSt.out.mono (w' := w8) (S' := fun b => b = gs) (fun _ h => h) (fun b hb => hK_.block b (by have h1 := HGs.out; have h2 := HLt.out; omega) (fun e => e.2 hb))); have HR8 := hide (HRd.out.only hK_ (fun b hb => Nat.lt_of_lt_of_le HlR.out hb.1)); have HG8 := hide (gr_only HGr.out hK_ (fun b hb => hb.1)); have HZ8 := hide (show w.heap.size ≤ gs ∧ gs < w8.heap.size by have h1 := HGs.out; have h2 := HLt.out; have h3 := hK_.size; omega); clear hO_ hK_)
              go_roundw
              case rel => exact ⟨kk - 1, ny, gs, xs ++ [(⟨s, st, true⟩ : Txn)], v8, _, ss, rfl, rfl, rfl, by go_num, by omega, by omega, by first | exact hqs | exact hss, by have := hxl.out; show _ ≤ 6; simp; omega, HTx.out true, HZ8.out, HO8.out, HS8.out, hide (HR8.out.up (by omega)), HG8.out⟩
              case measure => simp [intOf]; omega
    · obtain rfl : kk = 0 := by omega
      obtain ⟨A2, c2, h2e, _⟩ := hO.out.sl
      obtain ⟨n2, hn2⟩ : ∃ n, n = xs.length := ⟨_, rfl⟩
      rw [← hn2] at h2e
      subst h2e
      have HO9 := hide (hO.out.mono (w' := wr) (S2 := fun b => w.heap.size ≤ b ∧ Old wr b) (fun b hb => ⟨hb.1.1, hb.2⟩) (fun _ _ => rfl))
      have hx6 : n2 ≤ 6 := by have := hxl.out; omega
      clear hO hS hZ
      have HRr := hide hR.out
      have HGr := hide hG.out
      clear hR hG
      have HN2 := hide hn2
      clear hn2 hss
      have HRw := hide HlR.out
      by_cases h1 : (1 : Int) < n2
      focus
        go_wp2_with fail
        refine (pick_any _ R _ 3 HRr.out (by have := HP.out; omega)).mono ?_
        rintro e w2 ⟨y2, rfl, _, _, hr2, hg2⟩
        have HR2 := hide hr2
        have HG2 := hide (gr_trans HGr.out hg2)
        have HO2 := hide (Own.onlyGr HO9.out hg2 (by have := HlR.out; omega))
        clear hr2 hg2 HRr HGr HO9
        by_cases h2 : y2 = 0
        focus
          have h2' : (y2 == 0) = true := by simp [h2]
          obtain ⟨g, cg, hge, hgS⟩ := HO2.out.form (by rw [← HN2.out]; omega)
          rw [← HN2.out] at hge
          injection hge with hge1 _ hge2
          subst hge1
          subst hge2
          clear h2
          go_wp2_with fail
          refine (pick_any _ R _ _ HR2.out (by have := HP.out; omega)).mono ?_
          rintro e w3 ⟨q3, rfl, a3, b3, hr3, hg3⟩
          have hb3 := b3 (by omega)
          obtain ⟨q, rfl⟩ : ∃ n : Nat, q3 = (n : Int) := ⟨q3.toNat, by omega⟩
          have hq0 : q < xs.length := by rw [← HN2.out]; omega
          have hq1 : q + 1 < xs.length := by rw [← HN2.out]; omega
          have HO3 := hide (Own.onlyGr HO2.out hg3 (by have := HlR.out; omega))
          have HG3 := hide (gr_trans HG2.out hg3)
          have HR3 := hide hr3
          obtain ⟨csa, hra, hca, hfa⟩ := HO3.out.el hq0
          obtain ⟨csb, hrb, hcb, _⟩ := HO3.out.el hq1
          obtain ⟨va, rfl, hsa⟩ := hra
          obtain ⟨vb, rfl, hsb⟩ := hrb
          have HA := hide (show tTxn.rel w3 (fun b => (w.heap.size ≤ b ∧ Old w3 b) ∧ b ≠ g) xs[q] [.int .i64 xs[q].Session, va, .bool xs[q].Done] from ⟨va, rfl, hsa⟩)
          have HB := hide (show tTxn.rel w3 (fun b => (w.heap.size ≤ b ∧ Old w3 b) ∧ b ≠ g) xs[q + 1] [.int .i64 xs[q + 1].Session, vb, .bool xs[q + 1].Done] from ⟨vb, rfl, hsb⟩)
          have a0 : w3.cell? ⟨g, q * 3, none⟩ = some (.int .i64 xs[q].Session) := hca 0 _ rfl
          have a1 : w3.cell? ⟨g, q * 3 + 1, none⟩ = some va := hca 1 _ rfl
          have a2 : w3.cell? ⟨g, q * 3 + 2, none⟩ = some (.bool xs[q].Done) := hca 2 _ rfl
          have d0 : w3.cell? ⟨g, (q + 1) * 3, none⟩ = some (.int .i64 xs[q + 1].Session) := hcb 0 _ rfl
          have d1 : w3.cell? ⟨g, (q + 1) * 3 + 1, none⟩ = some vb := hcb 1 _ rfl
          have d2 : w3.cell? ⟨g, (q + 1) * 3 + 2, none⟩ = some (.bool xs[q + 1].Done) := hcb 2 _ rfl
          obtain ⟨Aa, ca, hva⟩ : ∃ A c, va = .slice A xs[q].Ops.length c := by obtain ⟨A, c, h, _⟩ := hsa; exact ⟨A, c, h⟩
          obtain ⟨Ab, cb, hvb⟩ : ∃ A c, vb = .slice A xs[q + 1].Ops.length c := by obtain ⟨A, c, h, _⟩ := hsb; exact ⟨A, c, h⟩
          clear hsa hsb
          have hgw : w.heap.size ≤ g := hgS.1
          have hgl : g < w3.heap.size := Nat.lt_of_lt_of_le hgS.2 hg3.size
          obtain ⟨la, hla⟩ : ∃ n, n = xs[q].Ops.length := ⟨_, rfl⟩
          obtain ⟨lb, hlb⟩ : ∃ n, n = xs[q + 1].Ops.length := ⟨_, rfl⟩
          rw [← hla] at hva
          rw [← hlb] at hvb
          subst hva
          subst hvb
          have hql : (q : Int) + 1 < n2 := by omega
          have hq2 : (q : Int) < n2 := by omega
          generalize xs[q].Session = sa at a0 HA
          generalize xs[q].Done = da at a2 HA
          generalize xs[q + 1].Session = sb at d0 HB
          generalize xs[q + 1].Done = db at d2 HB
          clear hca hcb hla hlb hr3 hg3 HR2 HG2 HO2 b3 a3 hb3
          obtain ⟨W4, hW4⟩ : ∃ W4, W4 = setRow (setRow w3 g (q * 3) [.int .i64 sb, .slice Ab lb cb, .bool db]) g ((q + 1) * 3) [.int .i64 sa, .slice Aa la ca, .bool da] := ⟨_, rfl⟩
          have HF4 := hide (show ∀ b, b ≠ g → W4.heap[b]? = w3.heap[b]? from fun b h1 => by rw [hW4, setRow_far g _ _ _ b h1, setRow_far g _ _ _ b h1])
          have HZ4 := hide (show W4.heap.size = w3.heap.size by rw [hW4, setRow_size, setRow_size])
          have HG4 := hide (show Gr w W4 R by rw [hW4]; exact setRow_gr hgw _ _ _ (setRow_gr hgw _ _ _ HG3.out))
          have HO4 := hide (show Own tTxn 41 W4 (fun b => w.heap.size ≤ b ∧ Old w3 b) ((xs.set q xs[q + 1]).set (q + 1) xs[q]) (.slice (some ⟨g, 0, none⟩) n2 c2) by
            rw [hW4]
            exact Own.setEl (Own.setEl HO3.out hq0 HB.out) (by rw [List.length_set]; exact hq1) (tTxn.mono HA.out (fun _ h => h) (fun b hb => setRow_far g _ _ _ b hb.2)))
          have HR4 := hide (HR3.out.keep (w' := W4) (fun b hb => HF4.out b (by have := HRw.out; omega)))
          simp only [setRow, Nat.add_assoc, Nat.reduceAdd] at hW4
          have HW4 := hide hW4
          clear hW4
          go_wp2_with fail
          rw [← HW4.out]
          refine (odd_any _ R _ n (HR4.out.alloc _) (by have := HP.out; omega) hn).mono ?_
          rintro e w5 ⟨v5, rfl, hr5, hg5⟩
          have HR5 := hide (hr5.up (Q := P + 303) (by omega))
          have HG5 := hide (gr_trans (gr_alloc HG4.out _) hg5)
          have HO5 := hide (show Own tTxn 41 w5 (fun b => w.heap.size ≤ b ∧ Old w5 b) ((xs.set q xs[q + 1]).set (q + 1) xs[q]) (.slice (some ⟨g, 0, none⟩) n2 c2) from
            HO4.out.mono (fun b hb => ⟨hb.1, by have h1 := hb.2; have h2 := hg5.size; have h3 := HZ4.out; simp at h2; unfold Old at h1 ⊢; omega⟩) (fun b hb => (hg5.block b (by have h1 := hb.2; have h3 := HZ4.out; unfold Old at h1; simp; omega) (fun e => by injection e with e; have := HRw.out; have := hb.1; omega)).trans (Below.heap_alloc _ _ _ (by have h1 := hb.2; have h3 := HZ4.out; unfold Old at h1; omega))))
          have HYl := hide (show ((xs.set q xs[q + 1]).set (q + 1) xs[q]).length = n2 by rw [List.length_set, List.length_set]; exact HN2.out.symm)
          have HYo := hide (show ∀ t ∈ (xs.set q xs[q + 1]).set (q + 1) xs[q], t.Ops.length ≤ 4 from fun t ht => by
            rcases List.mem_or_eq_of_mem_set ht with h1 | h1
            · rcases List.mem_or_eq_of_mem_set h1 with h2 | h2
              · exact hxo.out t h2
              · rw [h2]; exact hxo.out _ (List.getElem_mem _)
            · rw [h1]; exact hxo.out _ (List.getElem_mem _))
          generalize (xs.set q xs[q + 1]).set (q + 1) xs[q] = ys at HO5 HYl HYo
          clear hr5 hg5 HR4 HG4 HO4 HF4 HZ4 HW4 HO3 HG3 HR3 HA HB a0 a1 a2 d0 d1 d2 hfa hq0 hq1 hgl hgw hgS
        rotate_left
        focus
          have h2' : (y2 == 0) = false := by simp [h2]
          go_wp2_with fail
          refine (odd_any _ R _ n HR2.out (by have := HP.out; omega) hn).mono ?_
          rintro e w5 ⟨v5, rfl, hr5, hg5⟩
          have HR5 := hide (hr5.up (Q := P + 303) (by omega))
          have HG5 := hide (gr_trans HG2.out hg5)
          have HO5 := hide (Own.onlyGr HO2.out hg5 (by have := HRw.out; omega))
          have HYl := hide (show xs.length = n2 from HN2.out.symm)
          have HYo := hide hxo.out
          clear hr5 hg5 HR2 HG2 HO2 h2
          obtain ⟨ys, hys⟩ : ∃ ys, ys = xs := ⟨_, rfl⟩
          rw [← hys] at HO5 HYl HYo
          clear hys
      rotate_left 2
      focus
        go_wp2_with fail
        refine (odd_any _ R _ n HRr.out (by have := HP.out; omega) hn).mono ?_
        rintro e w5 ⟨v5, rfl, hr5, hg5⟩
        have HR5 := hide (hr5.up (Q := P + 303) (by omega))
        have HG5 := hide (gr_trans HGr.out hg5)
        have HO5 := hide (Own.onlyGr HO9.out hg5 (by have := HRw.out; omega))
        have HYl := hide (show xs.length = n2 from HN2.out.symm)
        have HYo := hide hxo.out
        clear hr5 hg5 HRr HGr HO9
        obtain ⟨ys, hys⟩ : ∃ ys, ys = xs := ⟨_, rfl⟩
        rw [← hys] at HO5 HYl HYo
        clear hys
      all_goals
        cases v5 with
        | false =>
          go_wp2_with fail
          go_ret
          exact ⟨ys, _, rfl, by have := HYl.out; omega, fun t ht => Nat.le_trans (HYo.out t ht) (by decide), HO5.out.sl.mono (fun b hb => hb) (fun _ _ => rfl), HR5.out.up (by omega), HG5.out⟩
        | true =>
        go_wp2_with fail
        refine (pick_any _ R _ 4 HR5.out (by have := HP.out; omega)).mono ?_
        rintro e w6 ⟨y6, rfl, a6, b6, hr6, hg6⟩
        have HR6 := hide hr6
        have HG6 := hide (gr_trans HG5.out hg6)
        have HO6 := hide (Own.onlyGr HO5.out hg6 (by have := HRw.out; omega))
        clear hr6 hg6 HR5 HG5 HO5 a6 b6
        by_cases h60 : y6 = 0
        · have h6a : (y6 == 0) = true := by simp [h60]
          have HB7 := hide (Blk.new w6 3 #[.int .i64 (-1), .int .i64 4])
          have HR7 := hide (HR6.out.alloc (.cells #[.int .i64 (-1), .int .i64 4] 3))
          have HG7 := hide (gr_alloc HG6.out (.cells #[.int .i64 (-1), .int .i64 4] 3))
          have HO7 := hide (HO6.out.mono (w' := w6.alloc (.cells #[.int .i64 (-1), .int .i64 4] 3)) (S2 := fun b => w.heap.size ≤ b ∧ Old (w6.alloc (.cells #[.int .i64 (-1), .int .i64 4] 3)) b) (fun b hb => ⟨hb.1, Nat.lt_of_lt_of_le hb.2 (by simp)⟩) (fun b hb => Below.heap_alloc _ _ _ hb.2))
          have HZ7 := hide HG6.out.size
          clear HR6 HG6 HO6 h60
          go_wp2_with fail
          refine (pick_any _ R _ 2 HR7.out (by have := HP.out; omega)).mono ?_
          rintro e w8 ⟨y8, rfl, a8, b8, hr8, hg8⟩
          have hb8 := b8 (by decide)
          obtain ⟨k8, rfl⟩ : ∃ n : Nat, y8 = (n : Int) := ⟨y8.toNat, by omega⟩
          have hk8 : k8 < 2 := by omega
          have hB8 := HB7.out.of (hg8.block _ (by simp) (fun e => by injection e with e; have := HRw.out; have := HZ7.out; omega))
          obtain ⟨z, hz⟩ : ∃ z : Int, w8.cell? ⟨w6.heap.size, k8, none⟩ = some (.int .i64 z) := by
            rw [hB8.cell]
            match k8, hk8 with
            | 0, _ => exact ⟨_, rfl⟩
            | 1, _ => exact ⟨_, rfl⟩
          have HR8 := hide hr8
          have HG8 := hide (gr_trans HG7.out hg8)
          have HO8 := hide (Own.onlyGr HO7.out hg8 (by have := HRw.out; omega))
          clear hr8 hg8 HR7 HG7 HO7 HB7 hB8 HZ7 a8 b8 hb8
          go_wp2_with (at_builtin; refine wpList_put tTxn rfl (.tmp 138) (.tmp 145) 23 rfl 41 i1 _ 40 Tryz.underlying23 hi1 hz01 hz11 hz21 rfl (by decide) (fun b => w.heap.size ≤ b) (fun _ => False) ys ⟨z, [], false⟩ [.int .i64 z, .slice none 0 0, .bool false] _ rfl HO8.out _ rfl ⟨_, rfl, ⟨none, 0, rfl, Nat.le_refl _, by simp [maxLen], Row.nil⟩⟩ (fun _ h => h.elim) (fun b hb => Nat.le_trans HG8.out.size hb) (by have := HYl.out; simp only [maxLen]; omega) (by have := HYl.out; omega) ?_; intro v9 w9 hO_ hK_; have HO9 := hide hO_; have HK9 := hide hK_; clear hO_ hK_)
          go_ret
          exact ⟨ys ++ [(⟨z, [], false⟩ : Txn)], v9, rfl, by have := HYl.out; simp; omega, fun t ht => by
            rcases List.mem_append.1 ht with h1 | h1
            · exact Nat.le_trans (HYo.out t h1) (by decide)
            · rw [List.mem_singleton] at h1
              rw [h1]; simp, HO9.out.sl.mono (fun b hb => hb) (fun _ _ => rfl), (HR8.out.only HK9.out (fun b hb => Nat.lt_of_lt_of_le HRw.out hb)).up (by omega), gr_only HG8.out HK9.out (fun b hb => hb)⟩
        by_cases h61 : y6 = 1
        · have h6a : (y6 == 0) = false := by simp [h61]
          have h6b : (y6 == 1) = true := by simp [h61]
          have HR7 := hide (HR6.out.alloc (.cells #[.int .i64 2, .int .i64 0, .int .i64 90, .int .i64 2, .int .i64 0, .int .i64 90] 46))
          have HG7 := hide (gr_alloc HG6.out (.cells #[.int .i64 2, .int .i64 0, .int .i64 90, .int .i64 2, .int .i64 0, .int .i64 90] 46))
          have HO7 := hide (HO6.out.mono (w' := w6.alloc (.cells #[.int .i64 2, .int .i64 0, .int .i64 90, .int .i64 2, .int .i64 0, .int .i64 90] 46)) (S2 := fun b => w.heap.size ≤ b ∧ Old (w6.alloc (.cells #[.int .i64 2, .int .i64 0, .int .i64 90, .int .i64 2, .int .i64 0, .int .i64 90] 46)) b) (fun b hb => ⟨hb.1, Nat.lt_of_lt_of_le hb.2 (by simp)⟩) (fun b hb => Below.heap_alloc _ _ _ hb.2))
          have HN7 := hide (fun b h => (HO6.out.owned b h).2)
          have HY7 := hide (show tTxn.rel (w6.alloc (.cells #[.int .i64 2, .int .i64 0, .int .i64 90, .int .i64 2, .int .i64 0, .int .i64 90] 46)) (fun x => x = w6.heap.size) ⟨0, [⟨2, 0, 90⟩, ⟨2, 0, 90⟩], false⟩ [.int .i64 0, .slice (some ⟨w6.heap.size, 0, none⟩) 2 2, .bool false] from ⟨_, rfl, sl_op2 w6 2 0 90 2 0 90⟩)
          have HZ7 := hide HG6.out.size
          clear HR6 HG6 HO6 h60 h61
          go_wp2_with (at_builtin; refine wpList_put tTxn rfl (.tmp 149) (.tmp 154) 23 rfl 41 i1 _ 40 Tryz.underlying23 hi1 hz01 hz11 hz21 rfl (by decide) (fun b => w.heap.size ≤ b) (fun x => x = w6.heap.size) ys ⟨0, [⟨2, 0, 90⟩, ⟨2, 0, 90⟩], false⟩ [.int .i64 0, .slice (some ⟨w6.heap.size, 0, none⟩) 2 2, .bool false] _ rfl HO7.out _ (by rw [World.size_alloc]; rfl) HY7.out (fun b hb => by subst hb; exact ⟨HZ7.out, by simp [Old], fun e => by have := HN7.out _ e; unfold Old at this; omega⟩) (fun b hb => Nat.le_trans HG7.out.size hb) (by have := HYl.out; simp only [maxLen]; omega) (by have := HYl.out; omega) ?_; intro v9 w9 hO_ hK_; have HO9 := hide hO_; have HK9 := hide hK_; clear hO_ hK_)
          go_ret
          exact ⟨ys ++ [(⟨0, [⟨2, 0, 90⟩, ⟨2, 0, 90⟩], false⟩ : Txn)], v9, rfl, by have := HYl.out; simp; omega, fun t ht => by
            rcases List.mem_append.1 ht with h1 | h1
            · exact Nat.le_trans (HYo.out t h1) (by decide)
            · rw [List.mem_singleton] at h1
              rw [h1]; simp, HO9.out.sl.mono (fun b hb => hb) (fun _ _ => rfl), (HR7.out.only HK9.out (fun b hb => Nat.lt_of_lt_of_le HRw.out hb)).up (by omega), gr_only HG7.out HK9.out (fun b hb => hb)⟩
        by_cases h62 : y6 = 2
        · have h6a : (y6 == 0) = false := by simp [h62]
          have h6b : (y6 == 1) = false := by simp [h62]
          have h6c : (y6 == 2) = true := by simp [h62]
          clear h60 h61 h62
          go_wp2_with fail
          refine (op_any _ R _ 1 HR6.out (by have := HP.out; omega) (by decide)).mono ?_
          rintro e w7 ⟨oa, ob, oc, rfl, hr7, hg7⟩
          have hG7 := gr_trans HG6.out hg7
          have hO7 := Own.onlyGr HO6.out hg7 (by have := HRw.out; omega)
          have HR7 := hide (hr7.alloc (.cells #[.int .i64 oa, .int .i64 ob, .int .i64 oc] 46))
          have HG7 := hide (gr_alloc hG7 (.cells #[.int .i64 oa, .int .i64 ob, .int .i64 oc] 46))
          have HO7 := hide (hO7.mono (w' := w7.alloc (.cells #[.int .i64 oa, .int .i64 ob, .int .i64 oc] 46)) (S2 := fun b => w.heap.size ≤ b ∧ Old (w7.alloc (.cells #[.int .i64 oa, .int .i64 ob, .int .i64 oc] 46)) b) (fun b hb => ⟨hb.1, Nat.lt_of_lt_of_le hb.2 (by simp)⟩) (fun b hb => Below.heap_alloc _ _ _ hb.2))
          have HN7 := hide (fun b h => (hO7.owned b h).2)
          have HY7 := hide (show tTxn.rel (w7.alloc (.cells #[.int .i64 oa, .int .i64 ob, .int .i64 oc] 46)) (fun x => x = w7.heap.size) ⟨0, [⟨oa, ob, oc⟩], false⟩ [.int .i64 0, .slice (some ⟨w7.heap.size, 0, none⟩) 1 1, .bool false] from ⟨_, rfl, sl_op1 w7 oa ob oc⟩)
          have HZ7 := hide hG7.size
          clear HR6 HG6 HO6 hr7 hg7 hG7 hO7
          go_wp2_with (at_builtin; refine wpList_put tTxn rfl (.tmp 158) (.tmp 163) 23 rfl 41 i1 _ 40 Tryz.underlying23 hi1 hz01 hz11 hz21 rfl (by decide) (fun b => w.heap.size ≤ b) (fun x => x = w7.heap.size) ys ⟨0, [⟨oa, ob, oc⟩], false⟩ [.int .i64 0, .slice (some ⟨w7.heap.size, 0, none⟩) 1 1, .bool false] _ rfl HO7.out _ (by rw [World.size_alloc]; rfl) HY7.out (fun b hb => by subst hb; exact ⟨HZ7.out, by simp [Old], fun e => by have := HN7.out _ e; unfold Old at this; omega⟩) (fun b hb => Nat.le_trans HG7.out.size hb) (by have := HYl.out; simp only [maxLen]; omega) (by have := HYl.out; omega) ?_; intro v9 w9 hO_ hK_; have HO9 := hide hO_; have HK9 := hide hK_; clear hO_ hK_)
          go_ret
          exact ⟨ys ++ [(⟨0, [⟨oa, ob, oc⟩], false⟩ : Txn)], v9, rfl, by have := HYl.out; simp; omega, fun t ht => by
            rcases List.mem_append.1 ht with h1 | h1
            · exact Nat.le_trans (HYo.out t h1) (by decide)
            · rw [List.mem_singleton] at h1
              rw [h1]; simp, HO9.out.sl.mono (fun b hb => hb) (fun _ _ => rfl), (HR7.out.only HK9.out (fun b hb => Nat.lt_of_lt_of_le HRw.out hb)).up (by omega), gr_only HG7.out HK9.out (fun b hb => hb)⟩
        · have h6a : (y6 == 0) = false := by simp [h60]
          have h6b : (y6 == 1) = false := by simp [h61]
          have h6c : (y6 == 2) = false := by simp [h62]
          have hmk7 : ∀ W : World, (Instr.makeSlice 23 (.int .i64 7) (.int .i64 7)).run Tryz.prog W = .ok (.slice (some ⟨W.heap.size, 0, none⟩) 7 7) (W.alloc (.cells (madeCells #[.int .i64 0, .slice none 0 0, .bool false] 21) 41)) := fun W => by
            have h := run_make_rowN (P := Tryz.prog) 23 41 i1 _ Tryz.underlying23 hi1 hz01 .i64 .i64 7 7 (Nat.le_refl _) (by rw [hz21]; omega) (by omega) W
            rw [hz11] at h
            exact h
          clear h60 h61 h62
          go_wp2_with fail
          go_ret
          exact ⟨_, _, rfl, by simp, fun t ht => by rw [List.eq_of_mem_replicate ht]; simp, (sl_zero7 w6).mono (fun b hb => by rw [hb]; exact ⟨HG6.out.size, by simp⟩) (fun _ _ => rfl), (HR6.out.alloc _).up (by omega), gr_alloc HG6.out _⟩
end Go.Proofs.YtjnghnkilnhacaaGreatDoor
