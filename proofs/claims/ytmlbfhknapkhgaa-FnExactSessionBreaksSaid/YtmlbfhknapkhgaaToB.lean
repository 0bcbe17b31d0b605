/- The conversions of the laws package make new memory that reads as their argument: calls, lists of lists, drafts. -/
import Derived.Test.YtmlbfhknapkhgaaProg
import Derived.Test.YtmlbfhknapkhgaaBase
import Derived.Test.YtmlbfhknapkhgaaElems
import Derived.Test.YtmlbfhknapkhgaaToA
namespace Go.Proofs.Ytmlbfhknapkhgaa
open Go.RowKit

theorem infoIntS_ : (Try.prog.info? 31).map (fun i => (i.zero, i.size, i.bytes)) = some (some (.slice none 0 0), 1, 24) := by kernel_rfl
set_option maxRecDepth 10000 in
set_option maxHeartbeats 400000 in
theorem toIntSS (xs : List (List Int)) (A : Option Addr) (c : Nat) (w : World) (hl : xs.length ≤ 1048576) (hn : ∀ x ∈ xs, x.length ≤ 1048576) (hA : Row (tSlice tInt) w (Old w) A xs) :
    Calls Try.prog 43 #[.slice A xs.length c] w fun e w' => ∃ v, e = .returned v ∧ Own (tIntSO 3) 31 w' (New w w') xs v ∧ Below w.heap.size w w' := by
  obtain ⟨i0, hi, hz0, hz1, hz2⟩ := info_parts infoIntS_
  have hmk := fun W => run_make_rowN (P := Try.prog) 41 31 i0 _ Try.underlying41 hi hz0 .i64 .i64 xs.length xs.length (Nat.le_refl _) (by rw [hz2]; omega) (by omega) W
  rw [hz1] at hmk
  clear hz0 hz1 hz2 hi
  go_enter Try.func43, Try.ntmps43
  go_wp2
  clear hmk
  go_loopw [4] (fun i wr => ∃ k m : Nat, k ≤ xs.length ∧ i = .int .i64 k ∧ Below w.heap.size w wr ∧ w.heap.size < wr.heap.size ∧ m ≤ wr.heap.size ∧ Filling (tIntSO 3) 31 wr (In (w.heap.size + 1) m) w.heap.size xs.length k xs) (fun i _ => xs.length - (intOf i).toNat)
  case atStart => exact ⟨0, 0, Nat.zero_le _, rfl, (Below.refl _ _).alloc (Nat.le_refl _) _, by simp, Nat.zero_le _, Filling.made _ _ _ _ _ (In (w.heap.size + 1) 0) (by show _ = xs.length * 1; omega) (fun h => absurd h.2 (by omega))⟩
  case round =>
    obtain ⟨k, m, hk, rfl, hb, hsz, hm, hF⟩ := hrel
    by_cases hlt : k < xs.length
    · have hi0 := hn xs[k] (List.getElem_mem hlt)
      obtain ⟨b, off, A2, c2, rfl, hbS, c0_, hi1, hi2, hi3⟩ := at_IntS hA hb hlt
      clear hA hn
      go_wp2_with (go_at_call 27; refine (toIntS _ _ _ _ hi0 hi3).mono ?_; rintro e w' ⟨v, rfl, hO, hb'⟩; obtain ⟨A3, c3, rfl, _, _, _⟩ := hO.sl; have hF2 := hF.later (S' := In (w.heap.size + 1) w'.heap.size) hb' (fun b h => ⟨h.1, by have := h.2; have := hb'.size; omega⟩) (fun b h => by have := h.2; unfold Old; omega) (fun h => by have := h.1; omega); clear hF; obtain ⟨⟨u0, k0⟩, f0⟩ := hF2.there (i := k) (by show k < xs.length * 1; omega))
      go_roundw
      case rel => exact ⟨k + 1, w'.heap.size, by omega, by go_num, ((hb.trans (hb'.mono hb.size)).setCell (p := ⟨w.heap.size, k, none⟩) (Nat.le_refl _) (.slice A3 xs[k].length c3)), by simpa using (Nat.lt_of_lt_of_le hsz hb'.size), by simp, hF2.put1 rfl hlt hlt _ (⟨_, rfl, hO.mono (fun b h => ⟨by have := h.1; omega, h.2⟩) (fun _ _ => rfl)⟩)⟩
      case measure => simp [intOf]; omega
    · obtain rfl : k = xs.length := by omega
      clear hA hn
      go_wp2
      go_ret
      exact ⟨_, rfl, hF.own rfl (by simp only [maxLen]; omega) ⟨Nat.le_refl _, hsz⟩ (fun b h => ⟨by have := h.1; omega, by have := h.2; omega⟩), hb⟩
end Go.Proofs.Ytmlbfhknapkhgaa
