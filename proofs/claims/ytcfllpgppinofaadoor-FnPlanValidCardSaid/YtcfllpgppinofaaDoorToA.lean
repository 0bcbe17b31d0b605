/- The conversions of the laws package make new memory that reads as their argument: ints, spans, operations, edges. -/
import Derived.Test.YtcfllpgppinofaaDoorProg
import Derived.Test.YtcfllpgppinofaaDoorBase
import Derived.Test.YtcfllpgppinofaaDoorElems
namespace Go.Proofs.YtcfllpgppinofaaDoor
open Go.RowKit

theorem infoInt_ : (Tryd.prog.info? 3).map (fun i => (i.zero, i.size, i.bytes)) = some (some (.int .i64 0), 1, 8) := by kernel_rfl
set_option maxRecDepth 10000 in
set_option maxHeartbeats 400000 in
theorem toIntS (xs : List Int) (A : Option Addr) (c : Nat) (w : World) (hl : xs.length ≤ 1048576) (hA : Row tInt w (Old w) A xs) :
    Calls Tryd.prog 16 #[.slice A xs.length c] w fun e w' => ∃ v, e = .returned v ∧ Own tInt 3 w' (New w w') xs v ∧ Below w.heap.size w w' := by
  obtain ⟨i0, hi, hz0, hz1, hz2⟩ := info_parts infoInt_
  have hmk := fun W => run_make_rowN (P := Tryd.prog) 23 3 i0 _ Tryd.underlying23 hi hz0 .i64 .i64 xs.length xs.length (Nat.le_refl _) (by rw [hz2]; omega) (by omega) W
  rw [hz1] at hmk
  clear hz0 hz1 hz2 hi
  go_enter Tryd.func16, Tryd.ntmps16
  go_wp2
  clear hmk
  go_loopw [4] (fun i wr => ∃ k m : Nat, k ≤ xs.length ∧ i = .int .i64 k ∧ Below w.heap.size w wr ∧ w.heap.size < wr.heap.size ∧ m ≤ wr.heap.size ∧ Filling tInt 3 wr (In (w.heap.size + 1) m) w.heap.size xs.length k xs) (fun i _ => xs.length - (intOf i).toNat)
  case atStart => exact ⟨0, 0, Nat.zero_le _, rfl, (Below.refl _ _).alloc (Nat.le_refl _) _, by simp, Nat.zero_le _, Filling.made _ _ _ _ _ (In (w.heap.size + 1) 0) (by show _ = xs.length * 1; omega) (fun h => absurd h.2 (by omega))⟩
  case round =>
    obtain ⟨k, m, hk, rfl, hb, hsz, hm, hF⟩ := hrel
    by_cases hlt : k < xs.length
    · obtain ⟨b, off, rfl, hbS, c0_⟩ := at_Int hA hb hlt
      clear hA
      have hF2 := hF; obtain ⟨⟨u0, k0⟩, f0⟩ := hF2.there (i := k) (by show k < xs.length * 1; omega)
      go_wp2
      go_roundw
      case rel => exact ⟨k + 1, m, by omega, by go_num, (hb.setCell (p := ⟨w.heap.size, k, none⟩) (Nat.le_refl _) (.int .i64 xs[k])), by simpa using hsz, by simpa using hm, hF2.put1 rfl hlt hlt _ rfl⟩
      case measure => simp [intOf]; omega
    · obtain rfl : k = xs.length := by omega
      clear hA
      go_wp2
      go_ret
      exact ⟨_, rfl, hF.own rfl (by simp only [maxLen]; omega) ⟨Nat.le_refl _, hsz⟩ (fun b h => ⟨by have := h.1; omega, by have := h.2; omega⟩), hb⟩
theorem toSpan (x : Span) (w : World) :
    Calls Tryd.prog 83 #[.agg #[.int .i64 x.From, .int .i64 x.To]] w fun e w' => e = .returned (.agg #[.int .i64 x.From, .int .i64 x.To]) ∧ Below w.heap.size w w' := by
  go_enter Tryd.func83, Tryd.ntmps83
  go_wp2
  refine bodyPost_ret (v := .agg #[.int .i64 x.From, .int .i64 x.To]) (by simp [results, Tryd.results83, go_sem]) rfl ⟨rfl, ?_⟩
  repeat (first | refine Below.setCell ?_ (by simp; try omega) _ | refine Below.alloc ?_ (by simp; try omega) _ | exact Below.refl _ _)
theorem infoSpan_ : (Tryd.prog.info? 43).map (fun i => (i.zero, i.size, i.bytes)) = some (some (.agg #[.int .i64 0, .int .i64 0]), 2, 16) := by kernel_rfl
theorem infoOp_ : (Tryd.prog.info? 83).map (fun i => (i.zero, i.size, i.bytes)) = some (some (.agg #[.int .i64 0, .int .i64 0, .int .i64 0]), 3, 24) := by kernel_rfl
end Go.Proofs.YtcfllpgppinofaaDoor
