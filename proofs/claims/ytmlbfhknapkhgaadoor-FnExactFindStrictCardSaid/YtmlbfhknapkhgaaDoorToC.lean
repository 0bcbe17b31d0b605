/- The conversions of the laws package make new memory that reads as their argument: transactions. -/
import Derived.Test.YtmlbfhknapkhgaaDoorProg
import Derived.Test.YtmlbfhknapkhgaaDoorBase
import Derived.Test.YtmlbfhknapkhgaaDoorElems
import Derived.Test.YtmlbfhknapkhgaaDoorToA
namespace Go.Proofs.YtmlbfhknapkhgaaDoor
open Go.RowKit

set_option maxHeartbeats 400000 in
theorem toTxn (x : Txn) (A2 : Option Addr) (c2 : Nat) (w : World) (hl : x.Ops.length ≤ 1048576) (hA : Row tOp w (Old w) A2 x.Ops) :
    Calls Tryd.prog 35 #[.agg #[.int .i64 x.Session, .slice A2 x.Ops.length c2, .bool x.Done]] w fun e w' => ∃ v, e = .returned (.agg #[.int .i64 x.Session, v, .bool x.Done]) ∧ Own tOp 95 w' (New w w') x.Ops v ∧ Below w.heap.size w w' := by
  go_enter Tryd.func35, Tryd.ntmps35
  go_wp2_with (go_at_call 58; refine (toOpS _ _ _ _ hl (hA.old ((((Below.refl _ w).alloc (Nat.le_refl _) _).alloc (by simp) _).alloc (by simp; omega) _))).mono ?_; rintro e w' ⟨v, rfl, hO, hb'⟩; obtain ⟨A3, c3, rfl, _, _, _⟩ := hO.sl; obtain ⟨hc, hf⟩ := bcell hb'; have hz : w.heap.size + 3 ≤ w'.heap.size := (by have := hb'.size; simpa using this); have HB := hide hb'; clear hb'; have HO := hide hO; clear hO)
  have hb0 : Below w.heap.size w w' := ((((Below.refl _ w).alloc (Nat.le_refl _) _).alloc (by simp) _).alloc (by simp; omega) _).trans (HB.out.mono (by simp; omega))
  have HB0 := hide hb0; clear hb0
  refine bodyPost_ret (v := .agg #[.int .i64 x.Session, .slice A3 x.Ops.length c3, .bool x.Done]) (by simp [results, Tryd.results35, go_sem, hc]) rfl ⟨_, rfl, ?_, ?_⟩
  · refine Own.mono (S := In (w.heap.size + 3) w'.heap.size) ?_ (fun b h => ⟨by have := h.1; omega, by simpa using h.2⟩) (fun _ _ => rfl)
    repeat (first | refine Own.setLow (n := w.heap.size + 3) ?_ (fun b h => h.1) (by simp; try omega) _ | exact HO.out.mono (fun b h => ⟨by simpa using h.1, h.2⟩) (fun _ _ => rfl))
  · repeat (first | refine Below.setCell ?_ (by simp; try omega) _ | exact HB0.out)
theorem infoTxn_ : (Tryd.prog.info? 64).map (fun i => (i.zero, i.size, i.bytes)) = some (some (.agg #[.int .i64 0, .slice none 0 0, .bool false]), 3, 40) := by kernel_rfl
set_option maxRecDepth 10000 in
set_option maxHeartbeats 400000 in
theorem toTxnS (xs : List Txn) (A : Option Addr) (c : Nat) (w : World) (hl : xs.length ≤ 1048576) (hn : ∀ x ∈ xs, x.Ops.length ≤ 1048576) (hA : Row tTxn w (Old w) A xs) :
    Calls Tryd.prog 9 #[.slice A xs.length c] w fun e w' => ∃ v, e = .returned v ∧ Own (tTxnO 95) 64 w' (New w w') xs v ∧ Below w.heap.size w w' := by
  obtain ⟨i0, hi, hz0, hz1, hz2⟩ := info_parts infoTxn_
  have hmk := fun W => run_make_rowN (P := Tryd.prog) 29 64 i0 _ Tryd.underlying29 hi hz0 .i64 .i64 xs.length xs.length (Nat.le_refl _) (by rw [hz2]; omega) (by omega) W
  rw [hz1] at hmk
  clear hz0 hz1 hz2 hi
  go_enter Tryd.func9, Tryd.ntmps9
  go_wp2
  clear hmk
  go_loopw [4] (fun i wr => ∃ k m : Nat, k ≤ xs.length ∧ i = .int .i64 k ∧ Below w.heap.size w wr ∧ w.heap.size < wr.heap.size ∧ m ≤ wr.heap.size ∧ Filling (tTxnO 95) 64 wr (In (w.heap.size + 1) m) w.heap.size xs.length k xs) (fun i _ => xs.length - (intOf i).toNat)
  case atStart => exact ⟨0, 0, Nat.zero_le _, rfl, (Below.refl _ _).alloc (Nat.le_refl _) _, by simp, Nat.zero_le _, Filling.made _ _ _ _ _ (In (w.heap.size + 1) 0) (by show _ = xs.length * 3; omega) (fun h => absurd h.2 (by omega))⟩
  case round =>
    obtain ⟨k, m, hk, rfl, hb, hsz, hm, hF⟩ := hrel
    by_cases hlt : k < xs.length
    · have hi0 := hn xs[k] (List.getElem_mem hlt)
      obtain ⟨b, off, A2, c2, rfl, hbS, c0_, c1_, c2_, hi1, hi2, hi3⟩ := at_Txn hA hb hlt
      clear hA hn
      go_wp2_with (go_at_call 35; refine (toTxn _ _ _ _ hi0 hi3).mono ?_; rintro e w' ⟨v, rfl, hO, hb'⟩; obtain ⟨A3, c3, rfl, _, _, _⟩ := hO.sl; have hF2 := hF.later (S' := In (w.heap.size + 1) w'.heap.size) hb' (fun b h => ⟨h.1, by have := h.2; have := hb'.size; omega⟩) (fun b h => by have := h.2; unfold Old; omega) (fun h => by have := h.1; omega); clear hF; obtain ⟨⟨u0, k0⟩, f0⟩ := hF2.there (i := k * 3) (by show k * 3 < xs.length * 3; omega); obtain ⟨⟨u1, k1⟩, f1⟩ := hF2.there (i := k * 3 + 1) (by show k * 3 + 1 < xs.length * 3; omega); obtain ⟨⟨u2, k2⟩, f2⟩ := hF2.there (i := k * 3 + 2) (by show k * 3 + 2 < xs.length * 3; omega))
      go_roundw
      case rel => exact ⟨k + 1, w'.heap.size, by omega, by go_num, ((((hb.trans (hb'.mono hb.size)).setCell (p := ⟨w.heap.size, k * 3, none⟩) (Nat.le_refl _) (.int .i64 xs[k].Session)).setCell (p := ⟨w.heap.size, k * 3 + 1, none⟩) (Nat.le_refl _) (.slice A3 xs[k].Ops.length c3)).setCell (p := ⟨w.heap.size, k * 3 + 2, none⟩) (Nat.le_refl _) (.bool xs[k].Done)), by simpa using (Nat.lt_of_lt_of_le hsz hb'.size), by simp, hF2.put3 rfl hlt hlt _ _ _ (⟨_, rfl, hO.mono (fun b h => ⟨by have := h.1; omega, h.2⟩) (fun _ _ => rfl)⟩)⟩
      case measure => simp [intOf]; omega
    · obtain rfl : k = xs.length := by omega
      clear hA hn
      go_wp2
      go_ret
      exact ⟨_, rfl, hF.own rfl (by simp only [maxLen]; omega) ⟨Nat.le_refl _, hsz⟩ (fun b h => ⟨by have := h.1; omega, by have := h.2; omega⟩), hb⟩
end Go.Proofs.YtmlbfhknapkhgaaDoor
