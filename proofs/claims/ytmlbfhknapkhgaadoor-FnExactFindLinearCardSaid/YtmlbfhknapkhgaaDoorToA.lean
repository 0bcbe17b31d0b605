/- The conversions of the laws package make new memory that reads as their argument: ints, spans, operations, edges. -/
import Derived.Test.YtmlbfhknapkhgaaDoorProg
import Derived.Test.YtmlbfhknapkhgaaDoorBase
import Derived.Test.YtmlbfhknapkhgaaDoorElems
namespace Go.Proofs.YtmlbfhknapkhgaaDoor
open Go.RowKit

theorem infoInt_ : (Tryd.prog.info? 3).map (fun i => (i.zero, i.size, i.bytes)) = some (some (.int .i64 0), 1, 8) := by kernel_rfl
set_option maxRecDepth 10000 in
set_option maxHeartbeats 400000 in
theorem toIntS (xs : List Int) (A : Option Addr) (c : Nat) (w : World) (hl : xs.length ≤ 1048576) (hA : Row tInt w (Old w) A xs) :
    Calls Tryd.prog 22 #[.slice A xs.length c] w fun e w' => ∃ v, e = .returned v ∧ Own tInt 3 w' (New w w') xs v ∧ Below w.heap.size w w' := by
  obtain ⟨i0, hi, hz0, hz1, hz2⟩ := info_parts infoInt_
  have hmk := fun W => run_make_rowN (P := Tryd.prog) 26 3 i0 _ Tryd.underlying26 hi hz0 .i64 .i64 xs.length xs.length (Nat.le_refl _) (by rw [hz2]; omega) (by omega) W
  rw [hz1] at hmk
  clear hz0 hz1 hz2 hi
  go_enter Tryd.func22, Tryd.ntmps22
  go_wp2
  clear hmk
  go_loopw [4] (fun i wr => ∃ k m : Nat, k ≤ xs.length ∧ i = .int .i64 k ∧ Below w.heap.size w wr ∧ w.heap.size < wr.heap.size ∧ m ≤ wr.heap.size ∧ Filling tInt 3 wr (In (w.heap.size + 1) m) w.heap.size xs.length k xs) (fun i _ => xs.length - (intOf i).toNat)
  case atStart => exact ⟨0, 0, Nat.zero_le _, rfl, (Below.refl _ _).alloc (Nat.le_refl _) _, by simp, Nat.zero_le _, Filling.made _ _ _ _ _ (In (w.heap.size + 1) 0) (by show _ = xs.length * 1; omega) (fun h => absurd h.2 (by omega))⟩
  case round =>
    obtain ⟨k, m, hk, rfl, hb, hsz, hm, hF⟩ := hrel
    by_cases hlt : k < xs.length
    · obtain ⟨b, off, rfl, hbS, c0_⟩ := at_Int hA hb hlt
      clear hA
      have hF2 := hF; obtain ⟨⟨u0, k0⟩, f0⟩ := hF2.there (i := k) (by show k < xs.length * 1; omega)
      go_wp2
      go_roundw
      case rel => exact ⟨k + 1, m, by omega, by go_num, (hb.setCell (p := ⟨w.heap.size, k, none⟩) (Nat.le_refl _) (.int .i64 xs[k])), by simpa using hsz, by simpa using hm, hF2.put1 rfl hlt hlt _ rfl⟩
      case measure => simp [intOf]; omega
    · obtain rfl : k = xs.length := by omega
      clear hA
      go_wp2
      go_ret
      exact ⟨_, rfl, hF.own rfl (by simp only [maxLen]; omega) ⟨Nat.le_refl _, hsz⟩ (fun b h => ⟨by have := h.1; omega, by have := h.2; omega⟩), hb⟩
theorem toSpan (x : Span) (w : World) :
    Calls Tryd.prog 36 #[.agg #[.int .i64 x.From, .int .i64 x.To]] w fun e w' => e = .returned (.agg #[.int .i64 x.From, .int .i64 x.To]) ∧ Below w.heap.size w w' := by
  go_enter Tryd.func36, Tryd.ntmps36
  go_wp2
  refine bodyPost_ret (v := .agg #[.int .i64 x.From, .int .i64 x.To]) (by simp [results, Tryd.results36, go_sem]) rfl ⟨rfl, ?_⟩
  repeat (first | refine Below.setCell ?_ (by simp; try omega) _ | refine Below.alloc ?_ (by simp; try omega) _ | exact Below.refl _ _)
theorem infoSpan_ : (Tryd.prog.info? 67).map (fun i => (i.zero, i.size, i.bytes)) = some (some (.agg #[.int .i64 0, .int .i64 0]), 2, 16) := by kernel_rfl
set_option maxRecDepth 10000 in
set_option maxHeartbeats 400000 in
theorem toSpanS (xs : List Span) (A : Option Addr) (c : Nat) (w : World) (hl : xs.length ≤ 1048576) (hA : Row tSpan w (Old w) A xs) :
    Calls Tryd.prog 10 #[.slice A xs.length c] w fun e w' => ∃ v, e = .returned v ∧ Own tSpan 67 w' (New w w') xs v ∧ Below w.heap.size w w' := by
  obtain ⟨i0, hi, hz0, hz1, hz2⟩ := info_parts infoSpan_
  have hmk := fun W => run_make_rowN (P := Tryd.prog) 31 67 i0 _ Tryd.underlying31 hi hz0 .i64 .i64 xs.length xs.length (Nat.le_refl _) (by rw [hz2]; omega) (by omega) W
  rw [hz1] at hmk
  clear hz0 hz1 hz2 hi
  go_enter Tryd.func10, Tryd.ntmps10
  go_wp2
  clear hmk
  go_loopw [4] (fun i wr => ∃ k m : Nat, k ≤ xs.length ∧ i = .int .i64 k ∧ Below w.heap.size w wr ∧ w.heap.size < wr.heap.size ∧ m ≤ wr.heap.size ∧ Filling tSpan 67 wr (In (w.heap.size + 1) m) w.heap.size xs.length k xs) (fun i _ => xs.length - (intOf i).toNat)
  case atStart => exact ⟨0, 0, Nat.zero_le _, rfl, (Below.refl _ _).alloc (Nat.le_refl _) _, by simp, Nat.zero_le _, Filling.made _ _ _ _ _ (In (w.heap.size + 1) 0) (by show _ = xs.length * 2; omega) (fun h => absurd h.2 (by omega))⟩
  case round =>
    obtain ⟨k, m, hk, rfl, hb, hsz, hm, hF⟩ := hrel
    by_cases hlt : k < xs.length
    · obtain ⟨b, off, rfl, hbS, c0_, c1_⟩ := at_Span hA hb hlt
      clear hA
      go_wp2_with (go_at_call 36; refine (toSpan xs[k] _).mono ?_; rintro e w' ⟨rfl, hb'⟩; have hF2 := hF.later (S' := In (w.heap.size + 1) w'.heap.size) hb' (fun b h => ⟨h.1, by have := h.2; have := hb'.size; omega⟩) (fun b h => by have := h.2; unfold Old; omega) (fun h => by have := h.1; omega); clear hF; obtain ⟨⟨u0, k0⟩, f0⟩ := hF2.there (i := k * 2) (by show k * 2 < xs.length * 2; omega); obtain ⟨⟨u1, k1⟩, f1⟩ := hF2.there (i := k * 2 + 1) (by show k * 2 + 1 < xs.length * 2; omega))
      go_roundw
      case rel => exact ⟨k + 1, w'.heap.size, by omega, by go_num, (((hb.trans (hb'.mono hb.size)).setCell (p := ⟨w.heap.size, k * 2, none⟩) (Nat.le_refl _) (.int .i64 xs[k].From)).setCell (p := ⟨w.heap.size, k * 2 + 1, none⟩) (Nat.le_refl _) (.int .i64 xs[k].To)), by simpa using (Nat.lt_of_lt_of_le hsz hb'.size), by simp, hF2.put2 rfl hlt hlt _ _ rfl⟩
      case measure => simp [intOf]; omega
    · obtain rfl : k = xs.length := by omega
      clear hA
      go_wp2
      go_ret
      exact ⟨_, rfl, hF.own rfl (by simp only [maxLen]; omega) ⟨Nat.le_refl _, hsz⟩ (fun b h => ⟨by have := h.1; omega, by have := h.2; omega⟩), hb⟩
theorem toOp (x : Op) (w : World) :
    Calls Tryd.prog 78 #[.agg #[.int .i64 x.Kind, .int .i64 x.Key, .int .i64 x.Value]] w fun e w' => e = .returned (.agg #[.int .i64 x.Kind, .int .i64 x.Key, .int .i64 x.Value]) ∧ Below w.heap.size w w' := by
  go_enter Tryd.func78, Tryd.ntmps78
  go_wp2
  refine bodyPost_ret (v := .agg #[.int .i64 x.Kind, .int .i64 x.Key, .int .i64 x.Value]) (by simp [results, Tryd.results78, go_sem]) rfl ⟨rfl, ?_⟩
  repeat (first | refine Below.setCell ?_ (by simp; try omega) _ | refine Below.alloc ?_ (by simp; try omega) _ | exact Below.refl _ _)
theorem infoOp_ : (Tryd.prog.info? 95).map (fun i => (i.zero, i.size, i.bytes)) = some (some (.agg #[.int .i64 0, .int .i64 0, .int .i64 0]), 3, 24) := by kernel_rfl
set_option maxRecDepth 10000 in
set_option maxHeartbeats 400000 in
theorem toOpS (xs : List Op) (A : Option Addr) (c : Nat) (w : World) (hl : xs.length ≤ 1048576) (hA : Row tOp w (Old w) A xs) :
    Calls Tryd.prog 58 #[.slice A xs.length c] w fun e w' => ∃ v, e = .returned v ∧ Own tOp 95 w' (New w w') xs v ∧ Below w.heap.size w w' := by
  obtain ⟨i0, hi, hz0, hz1, hz2⟩ := info_parts infoOp_
  have hmk := fun W => run_make_rowN (P := Tryd.prog) 62 95 i0 _ Tryd.underlying62 hi hz0 .i64 .i64 xs.length xs.length (Nat.le_refl _) (by rw [hz2]; omega) (by omega) W
  rw [hz1] at hmk
  clear hz0 hz1 hz2 hi
  go_enter Tryd.func58, Tryd.ntmps58
  go_wp2
  clear hmk
  go_loopw [4] (fun i wr => ∃ k m : Nat, k ≤ xs.length ∧ i = .int .i64 k ∧ Below w.heap.size w wr ∧ w.heap.size < wr.heap.size ∧ m ≤ wr.heap.size ∧ Filling tOp 95 wr (In (w.heap.size + 1) m) w.heap.size xs.length k xs) (fun i _ => xs.length - (intOf i).toNat)
  case atStart => exact ⟨0, 0, Nat.zero_le _, rfl, (Below.refl _ _).alloc (Nat.le_refl _) _, by simp, Nat.zero_le _, Filling.made _ _ _ _ _ (In (w.heap.size + 1) 0) (by show _ = xs.length * 3; omega) (fun h => absurd h.2 (by omega))⟩
  case round =>
    obtain ⟨k, m, hk, rfl, hb, hsz, hm, hF⟩ := hrel
    by_cases hlt : k < xs.length
    · obtain ⟨b, off, rfl, hbS, c0_, c1_, c2_⟩ := at_Op hA hb hlt
      clear hA
      go_wp2_with (go_at_call 78; refine (toOp xs[k] _).mono ?_; rintro e w' ⟨rfl, hb'⟩; have hF2 := hF.later (S' := In (w.heap.size + 1) w'.heap.size) hb' (fun b h => ⟨h.1, by have := h.2; have := hb'.size; omega⟩) (fun b h => by have := h.2; unfold Old; omega) (fun h => by have := h.1; omega); clear hF; obtain ⟨⟨u0, k0⟩, f0⟩ := hF2.there (i := k * 3) (by show k * 3 < xs.length * 3; omega); obtain ⟨⟨u1, k1⟩, f1⟩ := hF2.there (i := k * 3 + 1) (by show k * 3 + 1 < xs.length * 3; omega); obtain ⟨⟨u2, k2⟩, f2⟩ := hF2.there (i := k * 3 + 2) (by show k * 3 + 2 < xs.length * 3; omega))
      go_roundw
      case rel => exact ⟨k + 1, w'.heap.size, by omega, by go_num, ((((hb.trans (hb'.mono hb.size)).setCell (p := ⟨w.heap.size, k * 3, none⟩) (Nat.le_refl _) (.int .i64 xs[k].Kind)).setCell (p := ⟨w.heap.size, k * 3 + 1, none⟩) (Nat.le_refl _) (.int .i64 xs[k].Key)).setCell (p := ⟨w.heap.size, k * 3 + 2, none⟩) (Nat.le_refl _) (.int .i64 xs[k].Value)), by simpa using (Nat.lt_of_lt_of_le hsz hb'.size), by simp, hF2.put3 rfl hlt hlt _ _ _ rfl⟩
      case measure => simp [intOf]; omega
    · obtain rfl : k = xs.length := by omega
      clear hA
      go_wp2
      go_ret
      exact ⟨_, rfl, hF.own rfl (by simp only [maxLen]; omega) ⟨Nat.le_refl _, hsz⟩ (fun b h => ⟨by have := h.1; omega, by have := h.2; omega⟩), hb⟩
end Go.Proofs.YtmlbfhknapkhgaaDoor
