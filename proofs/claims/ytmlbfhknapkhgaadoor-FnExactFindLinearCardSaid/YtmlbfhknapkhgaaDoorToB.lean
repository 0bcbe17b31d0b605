/- The conversions of the laws package make new memory that reads as their argument: calls, lists of lists, drafts. -/
import Derived.Test.YtmlbfhknapkhgaaDoorProg
import Derived.Test.YtmlbfhknapkhgaaDoorBase
import Derived.Test.YtmlbfhknapkhgaaDoorElems
import Derived.Test.YtmlbfhknapkhgaaDoorToA
namespace Go.Proofs.YtmlbfhknapkhgaaDoor
open Go.RowKit

set_option maxHeartbeats 400000 in
theorem toCall (x : Call) (w : World) :
    Calls Tryd.prog 48 #[.agg #[.int .i64 x.Kind, .int .i64 x.Value, .int .i64 x.When.From, .int .i64 x.When.To]] w fun e w' => e = .returned (.agg #[.int .i64 x.Kind, .int .i64 x.Value, .int .i64 x.When.From, .int .i64 x.When.To]) ∧ Below w.heap.size w w' := by
  go_enter Tryd.func48, Tryd.ntmps48
  go_wp2_with (go_at_call 36; refine (toSpan x.When _).mono ?_; rintro e w' ⟨rfl, hb'⟩; obtain ⟨hc, hf⟩ := bcell hb'; have hz : w.heap.size + 3 ≤ w'.heap.size := (by have := hb'.size; simpa using this); have HB := hide hb'; clear hb')
  refine bodyPost_ret (v := .agg #[.int .i64 x.Kind, .int .i64 x.Value, .int .i64 x.When.From, .int .i64 x.When.To]) (by simp [results, Tryd.results48, go_sem, hc]) rfl ⟨rfl, ?_⟩
  have hb0 : Below w.heap.size w w' := ((((Below.refl _ w).alloc (Nat.le_refl _) _).alloc (by simp) _).alloc (by simp; omega) _).trans (HB.out.mono (by simp; omega))
  have HB0 := hide hb0; clear hb0
  repeat (first | refine Below.setCell ?_ (by simp; try omega) _ | exact HB0.out)
theorem infoCall_ : (Tryd.prog.info? 80).map (fun i => (i.zero, i.size, i.bytes)) = some (some (.agg #[.int .i64 0, .int .i64 0, .int .i64 0, .int .i64 0]), 4, 32) := by kernel_rfl
set_option maxRecDepth 10000 in
set_option maxHeartbeats 400000 in
theorem toCallS (xs : List Call) (A : Option Addr) (c : Nat) (w : World) (hl : xs.length ≤ 1048576) (hA : Row tCall w (Old w) A xs) :
    Calls Tryd.prog 21 #[.slice A xs.length c] w fun e w' => ∃ v, e = .returned v ∧ Own tCall 80 w' (New w w') xs v ∧ Below w.heap.size w w' := by
  obtain ⟨i0, hi, hz0, hz1, hz2⟩ := info_parts infoCall_
  have hmk := fun W => run_make_rowN (P := Tryd.prog) 43 80 i0 _ Tryd.underlying43 hi hz0 .i64 .i64 xs.length xs.length (Nat.le_refl _) (by rw [hz2]; omega) (by omega) W
  rw [hz1] at hmk
  clear hz0 hz1 hz2 hi
  go_enter Tryd.func21, Tryd.ntmps21
  go_wp2
  clear hmk
  go_loopw [4] (fun i wr => ∃ k m : Nat, k ≤ xs.length ∧ i = .int .i64 k ∧ Below w.heap.size w wr ∧ w.heap.size < wr.heap.size ∧ m ≤ wr.heap.size ∧ Filling tCall 80 wr (In (w.heap.size + 1) m) w.heap.size xs.length k xs) (fun i _ => xs.length - (intOf i).toNat)
  case atStart => exact ⟨0, 0, Nat.zero_le _, rfl, (Below.refl _ _).alloc (Nat.le_refl _) _, by simp, Nat.zero_le _, Filling.made _ _ _ _ _ (In (w.heap.size + 1) 0) (by show _ = xs.length * 4; omega) (fun h => absurd h.2 (by omega))⟩
  case round =>
    obtain ⟨k, m, hk, rfl, hb, hsz, hm, hF⟩ := hrel
    by_cases hlt : k < xs.length
    · obtain ⟨b, off, rfl, hbS, c0_, c1_, c2_, c3_⟩ := at_Call hA hb hlt
      clear hA
      go_wp2_with (go_at_call 48; refine (toCall xs[k] _).mono ?_; rintro e w' ⟨rfl, hb'⟩; have hF2 := hF.later (S' := In (w.heap.size + 1) w'.heap.size) hb' (fun b h => ⟨h.1, by have := h.2; have := hb'.size; omega⟩) (fun b h => by have := h.2; unfold Old; omega) (fun h => by have := h.1; omega); clear hF; obtain ⟨⟨u0, k0⟩, f0⟩ := hF2.there (i := k * 4) (by show k * 4 < xs.length * 4; omega); obtain ⟨⟨u1, k1⟩, f1⟩ := hF2.there (i := k * 4 + 1) (by show k * 4 + 1 < xs.length * 4; omega); obtain ⟨⟨u2, k2⟩, f2⟩ := hF2.there (i := k * 4 + 2) (by show k * 4 + 2 < xs.length * 4; omega); obtain ⟨⟨u3, k3⟩, f3⟩ := hF2.there (i := k * 4 + 3) (by show k * 4 + 3 < xs.length * 4; omega))
      go_roundw
      case rel => exact ⟨k + 1, w'.heap.size, by omega, by go_num, (((((hb.trans (hb'.mono hb.size)).setCell (p := ⟨w.heap.size, k * 4, none⟩) (Nat.le_refl _) (.int .i64 xs[k].Kind)).setCell (p := ⟨w.heap.size, k * 4 + 1, none⟩) (Nat.le_refl _) (.int .i64 xs[k].Value)).setCell (p := ⟨w.heap.size, k * 4 + 2, none⟩) (Nat.le_refl _) (.int .i64 xs[k].When.From)).setCell (p := ⟨w.heap.size, k * 4 + 3, none⟩) (Nat.le_refl _) (.int .i64 xs[k].When.To)), by simpa using (Nat.lt_of_lt_of_le hsz hb'.size), by simp, hF2.put4 rfl hlt hlt _ _ _ _ rfl⟩
      case measure => simp [intOf]; omega
    · obtain rfl : k = xs.length := by omega
      clear hA
      go_wp2
      go_ret
      exact ⟨_, rfl, hF.own rfl (by simp only [maxLen]; omega) ⟨Nat.le_refl _, hsz⟩ (fun b h => ⟨by have := h.1; omega, by have := h.2; omega⟩), hb⟩
theorem infoIntS_ : (Tryd.prog.info? 26).map (fun i => (i.zero, i.size, i.bytes)) = some (some (.slice none 0 0), 1, 24) := by kernel_rfl
end Go.Proofs.YtmlbfhknapkhgaaDoor
