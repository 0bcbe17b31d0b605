/- The conversions of the laws package make new memory that reads as their argument: calls, lists of lists, drafts. -/
import Derived.Test.YtahjpdagdpngaaaProg
import Derived.Test.YtahjpdagdpngaaaBase
import Derived.Test.YtahjpdagdpngaaaElems
import Derived.Test.YtahjpdagdpngaaaToA
namespace Go.Proofs.Ytahjpdagdpngaaa
open Go.RowKit

set_option maxHeartbeats 400000 in
theorem toCall (x : Call) (w : World) :
    Calls Try.prog 62 #[.agg #[.int .i64 x.Kind, .int .i64 x.Value, .int .i64 x.When.From, .int .i64 x.When.To]] w fun e w' => e = .returned (.agg #[.int .i64 x.Kind, .int .i64 x.Value, .int .i64 x.When.From, .int .i64 x.When.To]) ∧ Below w.heap.size w w' := by
  go_enter Try.func62, Try.ntmps62
  go_wp2_with (go_at_call 57; refine (toSpan x.When _).mono ?_; rintro e w' ⟨rfl, hb'⟩; obtain ⟨hc, hf⟩ := bcell hb'; have hz : w.heap.size + 3 ≤ w'.heap.size := (by have := hb'.size; simpa using this); have HB := hide hb'; clear hb')
  refine bodyPost_ret (v := .agg #[.int .i64 x.Kind, .int .i64 x.Value, .int .i64 x.When.From, .int .i64 x.When.To]) (by simp [results, Try.results62, go_sem, hc]) rfl ⟨rfl, ?_⟩
  have hb0 : Below w.heap.size w w' := ((((Below.refl _ w).alloc (Nat.le_refl _) _).alloc (by simp) _).alloc (by simp; omega) _).trans (HB.out.mono (by simp; omega))
  have HB0 := hide hb0; clear hb0
  repeat (first | refine Below.setCell ?_ (by simp; try omega) _ | exact HB0.out)
theorem infoCall_ : (Try.prog.info? 79).map (fun i => (i.zero, i.size, i.bytes)) = some (some (.agg #[.int .i64 0, .int .i64 0, .int .i64 0, .int .i64 0]), 4, 32) := by kernel_rfl
set_option maxRecDepth 10000 in
set_option maxHeartbeats 400000 in
theorem toCallS (xs : List Call) (A : Option Addr) (c : Nat) (w : World) (hl : xs.length ≤ 1048576) (hA : Row tCall w (Old w) A xs) :
    Calls Try.prog 26 #[.slice A xs.length c] w fun e w' => ∃ v, e = .returned v ∧ Own tCall 79 w' (New w w') xs v ∧ Below w.heap.size w w' := by
  obtain ⟨i0, hi, hz0, hz1, hz2⟩ := info_parts infoCall_
  have hmk := fun W => run_make_rowN (P := Try.prog) 38 79 i0 _ Try.underlying38 hi hz0 .i64 .i64 xs.length xs.length (Nat.le_refl _) (by rw [hz2]; omega) (by omega) W
  rw [hz1] at hmk
  clear hz0 hz1 hz2 hi
  go_enter Try.func26, Try.ntmps26
  go_wp2
  clear hmk
  go_loopw [4] (fun i wr => ∃ k m : Nat, k ≤ xs.length ∧ i = .int .i64 k ∧ Below w.heap.size w wr ∧ w.heap.size < wr.heap.size ∧ m ≤ wr.heap.size ∧ Filling tCall 79 wr (In (w.heap.size + 1) m) w.heap.size xs.length k xs) (fun i _ => xs.length - (intOf i).toNat)
  case atStart => exact ⟨0, 0, Nat.zero_le _, rfl, (Below.refl _ _).alloc (Nat.le_refl _) _, by simp, Nat.zero_le _, Filling.made _ _ _ _ _ (In (w.heap.size + 1) 0) (by show _ = xs.length * 4; omega) (fun h => absurd h.2 (by omega))⟩
  case round =>
    obtain ⟨k, m, hk, rfl, hb, hsz, hm, hF⟩ := hrel
    by_cases hlt : k < xs.length
    · obtain ⟨b, off, rfl, hbS, c0_, c1_, c2_, c3_⟩ := at_Call hA hb hlt
      clear hA
      go_wp2_with (go_at_call 62; refine (toCall xs[k] _).mono ?_; rintro e w' ⟨rfl, hb'⟩; have hF2 := hF.later (S' := In (w.heap.size + 1) w'.heap.size) hb' (fun b h => ⟨h.1, by have := h.2; have := hb'.size; omega⟩) (fun b h => by have := h.2; unfold Old; omega) (fun h => by have := h.1; omega); clear hF; obtain ⟨⟨u0, k0⟩, f0⟩ := hF2.there (i := k * 4) (by show k * 4 < xs.length * 4; omega); obtain ⟨⟨u1, k1⟩, f1⟩ := hF2.there (i := k * 4 + 1) (by show k * 4 + 1 < xs.length * 4; omega); obtain ⟨⟨u2, k2⟩, f2⟩ := hF2.there (i := k * 4 + 2) (by show k * 4 + 2 < xs.length * 4; omega); obtain ⟨⟨u3, k3⟩, f3⟩ := hF2.there (i := k * 4 + 3) (by show k * 4 + 3 < xs.length * 4; omega))
      go_roundw
      case rel => exact ⟨k + 1, w'.heap.size, by omega, by go_num, (((((hb.trans (hb'.mono hb.size)).setCell (p := ⟨w.heap.size, k * 4, none⟩) (Nat.le_refl _) (.int .i64 xs[k].Kind)).setCell (p := ⟨w.heap.size, k * 4 + 1, none⟩) (Nat.le_refl _) (.int .i64 xs[k].Value)).setCell (p := ⟨w.heap.size, k * 4 + 2, none⟩) (Nat.le_refl _) (.int .i64 xs[k].When.From)).setCell (p := ⟨w.heap.size, k * 4 + 3, none⟩) (Nat.le_refl _) (.int .i64 xs[k].When.To)), by simpa using (Nat.lt_of_lt_of_le hsz hb'.size), by simp, hF2.put4 rfl hlt hlt _ _ _ _ rfl⟩
      case measure => simp [intOf]; omega
    · obtain rfl : k = xs.length := by omega
      clear hA
      go_wp2
      go_ret
      exact ⟨_, rfl, hF.own rfl (by simp only [maxLen]; omega) ⟨Nat.le_refl _, hsz⟩ (fun b h => ⟨by have := h.1; omega, by have := h.2; omega⟩), hb⟩
theorem infoIntS_ : (Try.prog.info? 22).map (fun i => (i.zero, i.size, i.bytes)) = some (some (.slice none 0 0), 1, 24) := by kernel_rfl
set_option maxRecDepth 10000 in
set_option maxHeartbeats 400000 in
theorem toIntSS (xs : List (List Int)) (A : Option Addr) (c : Nat) (w : World) (hl : xs.length ≤ 1048576) (hn : ∀ x ∈ xs, x.length ≤ 1048576) (hA : Row (tSlice tInt) w (Old w) A xs) :
    Calls Try.prog 31 #[.slice A xs.length c] w fun e w' => ∃ v, e = .returned v ∧ Own (tIntSO 3) 22 w' (New w w') xs v ∧ Below w.heap.size w w' := by
  obtain ⟨i0, hi, hz0, hz1, hz2⟩ := info_parts infoIntS_
  have hmk := fun W => run_make_rowN (P := Try.prog) 42 22 i0 _ Try.underlying42 hi hz0 .i64 .i64 xs.length xs.length (Nat.le_refl _) (by rw [hz2]; omega) (by omega) W
  rw [hz1] at hmk
  clear hz0 hz1 hz2 hi
  go_enter Try.func31, Try.ntmps31
  go_wp2
  clear hmk
  go_loopw [4] (fun i wr => ∃ k m : Nat, k ≤ xs.length ∧ i = .int .i64 k ∧ Below w.heap.size w wr ∧ w.heap.size < wr.heap.size ∧ m ≤ wr.heap.size ∧ Filling (tIntSO 3) 22 wr (In (w.heap.size + 1) m) w.heap.size xs.length k xs) (fun i _ => xs.length - (intOf i).toNat)
  case atStart => exact ⟨0, 0, Nat.zero_le _, rfl, (Below.refl _ _).alloc (Nat.le_refl _) _, by simp, Nat.zero_le _, Filling.made _ _ _ _ _ (In (w.heap.size + 1) 0) (by show _ = xs.length * 1; omega) (fun h => absurd h.2 (by omega))⟩
  case round =>
    obtain ⟨k, m, hk, rfl, hb, hsz, hm, hF⟩ := hrel
    by_cases hlt : k < xs.length
    · have hi0 := hn xs[k] (List.getElem_mem hlt)
      obtain ⟨b, off, A2, c2, rfl, hbS, c0_, hi1, hi2, hi3⟩ := at_IntS hA hb hlt
      clear hA hn
      go_wp2_with (go_at_call 14; refine (toIntS _ _ _ _ hi0 hi3).mono ?_; rintro e w' ⟨v, rfl, hO, hb'⟩; obtain ⟨A3, c3, rfl, _, _, _⟩ := hO.sl; have hF2 := hF.later (S' := In (w.heap.size + 1) w'.heap.size) hb' (fun b h => ⟨h.1, by have := h.2; have := hb'.size; omega⟩) (fun b h => by have := h.2; unfold Old; omega) (fun h => by have := h.1; omega); clear hF; obtain ⟨⟨u0, k0⟩, f0⟩ := hF2.there (i := k) (by show k < xs.length * 1; omega))
      go_roundw
      case rel => exact ⟨k + 1, w'.heap.size, by omega, by go_num, ((hb.trans (hb'.mono hb.size)).setCell (p := ⟨w.heap.size, k, none⟩) (Nat.le_refl _) (.slice A3 xs[k].length c3)), by simpa using (Nat.lt_of_lt_of_le hsz hb'.size), by simp, hF2.put1 rfl hlt hlt _ (⟨_, rfl, hO.mono (fun b h => ⟨by have := h.1; omega, h.2⟩) (fun _ _ => rfl)⟩)⟩
      case measure => simp [intOf]; omega
    · obtain rfl : k = xs.length := by omega
      clear hA hn
      go_wp2
      go_ret
      exact ⟨_, rfl, hF.own rfl (by simp only [maxLen]; omega) ⟨Nat.le_refl _, hsz⟩ (fun b h => ⟨by have := h.1; omega, by have := h.2; omega⟩), hb⟩
set_option maxHeartbeats 400000 in
theorem toDraft (x : Draft) (A2 : Option Addr) (c2 : Nat) (w : World) (hl : x.Steps.length ≤ 1048576) (hA : Row tOp w (Old w) A2 x.Steps) :
    Calls Try.prog 73 #[.agg #[.int .i64 x.Session, .slice A2 x.Steps.length c2]] w fun e w' => ∃ v, e = .returned (.agg #[.int .i64 x.Session, v]) ∧ Own tOp 96 w' (New w w') x.Steps v ∧ Below w.heap.size w w' := by
  go_enter Try.func73, Try.ntmps73
  go_wp2_with (go_at_call 95; refine (toOpS _ _ _ _ hl (hA.old ((((Below.refl _ w).alloc (Nat.le_refl _) _).alloc (by simp) _).alloc (by simp; omega) _))).mono ?_; rintro e w' ⟨v, rfl, hO, hb'⟩; obtain ⟨A3, c3, rfl, _, _, _⟩ := hO.sl; obtain ⟨hc, hf⟩ := bcell hb'; have hz : w.heap.size + 3 ≤ w'.heap.size := (by have := hb'.size; simpa using this); have HB := hide hb'; clear hb'; have HO := hide hO; clear hO)
  have hb0 : Below w.heap.size w w' := ((((Below.refl _ w).alloc (Nat.le_refl _) _).alloc (by simp) _).alloc (by simp; omega) _).trans (HB.out.mono (by simp; omega))
  have HB0 := hide hb0; clear hb0
  refine bodyPost_ret (v := .agg #[.int .i64 x.Session, .slice A3 x.Steps.length c3]) (by simp [results, Try.results73, go_sem, hc]) rfl ⟨_, rfl, ?_, ?_⟩
  · refine Own.mono (S := In (w.heap.size + 3) w'.heap.size) ?_ (fun b h => ⟨by have := h.1; omega, by simpa using h.2⟩) (fun _ _ => rfl)
    repeat (first | refine Own.setLow (n := w.heap.size + 3) ?_ (fun b h => h.1) (by simp; try omega) _ | exact HO.out.mono (fun b h => ⟨by simpa using h.1, h.2⟩) (fun _ _ => rfl))
  · repeat (first | refine Below.setCell ?_ (by simp; try omega) _ | exact HB0.out)
theorem infoDraft_ : (Try.prog.info? 94).map (fun i => (i.zero, i.size, i.bytes)) = some (some (.agg #[.int .i64 0, .slice none 0 0]), 2, 32) := by kernel_rfl
set_option maxRecDepth 10000 in
set_option maxHeartbeats 400000 in
theorem toDraftS (xs : List Draft) (A : Option Addr) (c : Nat) (w : World) (hl : xs.length ≤ 1048576) (hn : ∀ x ∈ xs, x.Steps.length ≤ 1048576) (hA : Row tDraft w (Old w) A xs) :
    Calls Try.prog 36 #[.slice A xs.length c] w fun e w' => ∃ v, e = .returned v ∧ Own (tDraftO 96) 94 w' (New w w') xs v ∧ Below w.heap.size w w' := by
  obtain ⟨i0, hi, hz0, hz1, hz2⟩ := info_parts infoDraft_
  have hmk := fun W => run_make_rowN (P := Try.prog) 50 94 i0 _ Try.underlying50 hi hz0 .i64 .i64 xs.length xs.length (Nat.le_refl _) (by rw [hz2]; omega) (by omega) W
  rw [hz1] at hmk
  clear hz0 hz1 hz2 hi
  go_enter Try.func36, Try.ntmps36
  go_wp2
  clear hmk
  go_loopw [4] (fun i wr => ∃ k m : Nat, k ≤ xs.length ∧ i = .int .i64 k ∧ Below w.heap.size w wr ∧ w.heap.size < wr.heap.size ∧ m ≤ wr.heap.size ∧ Filling (tDraftO 96) 94 wr (In (w.heap.size + 1) m) w.heap.size xs.length k xs) (fun i _ => xs.length - (intOf i).toNat)
  case atStart => exact ⟨0, 0, Nat.zero_le _, rfl, (Below.refl _ _).alloc (Nat.le_refl _) _, by simp, Nat.zero_le _, Filling.made _ _ _ _ _ (In (w.heap.size + 1) 0) (by show _ = xs.length * 2; omega) (fun h => absurd h.2 (by omega))⟩
  case round =>
    obtain ⟨k, m, hk, rfl, hb, hsz, hm, hF⟩ := hrel
    by_cases hlt : k < xs.length
    · have hi0 := hn xs[k] (List.getElem_mem hlt)
      obtain ⟨b, off, A2, c2, rfl, hbS, c0_, c1_, hi1, hi2, hi3⟩ := at_Draft hA hb hlt
      clear hA hn
      go_wp2_with (go_at_call 73; refine (toDraft _ _ _ _ hi0 hi3).mono ?_; rintro e w' ⟨v, rfl, hO, hb'⟩; obtain ⟨A3, c3, rfl, _, _, _⟩ := hO.sl; have hF2 := hF.later (S' := In (w.heap.size + 1) w'.heap.size) hb' (fun b h => ⟨h.1, by have := h.2; have := hb'.size; omega⟩) (fun b h => by have := h.2; unfold Old; omega) (fun h => by have := h.1; omega); clear hF; obtain ⟨⟨u0, k0⟩, f0⟩ := hF2.there (i := k * 2) (by show k * 2 < xs.length * 2; omega); obtain ⟨⟨u1, k1⟩, f1⟩ := hF2.there (i := k * 2 + 1) (by show k * 2 + 1 < xs.length * 2; omega))
      go_roundw
      case rel => exact ⟨k + 1, w'.heap.size, by omega, by go_num, (((hb.trans (hb'.mono hb.size)).setCell (p := ⟨w.heap.size, k * 2, none⟩) (Nat.le_refl _) (.int .i64 xs[k].Session)).setCell (p := ⟨w.heap.size, k * 2 + 1, none⟩) (Nat.le_refl _) (.slice A3 xs[k].Steps.length c3)), by simpa using (Nat.lt_of_lt_of_le hsz hb'.size), by simp, hF2.put2 rfl hlt hlt _ _ (⟨_, rfl, hO.mono (fun b h => ⟨by have := h.1; omega, h.2⟩) (fun _ _ => rfl)⟩)⟩
      case measure => simp [intOf]; omega
    · obtain rfl : k = xs.length := by omega
      clear hA hn
      go_wp2
      go_ret
      exact ⟨_, rfl, hF.own rfl (by simp only [maxLen]; omega) ⟨Nat.le_refl _, hsz⟩ (fun b h => ⟨by have := h.1; omega, by have := h.2; omega⟩), hb⟩
end Go.Proofs.Ytahjpdagdpngaaa
