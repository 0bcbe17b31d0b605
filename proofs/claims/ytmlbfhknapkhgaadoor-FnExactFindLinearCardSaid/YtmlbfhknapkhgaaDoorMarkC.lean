/- Marks on the arguments: spans (a second argument), calls (a first one). -/
import Derived.Test.YtmlbfhknapkhgaaDoorMark
namespace Go.Proofs.YtmlbfhknapkhgaaDoor
open Go.RowKit
set_option linter.unusedVariables false
set_option linter.unusedSimpArgs false

set_option maxRecDepth 10000 in
set_option maxHeartbeats 1000000 in
theorem markSpanS_arg (xs : List Span) (k : Int) (A : Option Addr) (c : Nat) (w : World) (S : Nat → Prop) (hn : xs.length ≤ 1048576) (hk : 0 ≤ k ∧ k ≤ 4611686018427387904) (hOw : Own tSpan 67 w S xs (.slice A xs.length c)) :
    Calls Tryd.prog 16 #[.slice A xs.length c, .int .i64 k] w fun e w' => (∃ r : Int, e = .returned (.int .i64 r) ∧ 0 ≤ r) ∧ Only S w w' := by
  obtain ⟨hk0, hk1⟩ := hk
  have HRm := hide (show Room w S 67 A (xs.length * 2) from fun hn => by
    rcases hOw with ⟨h, rfl⟩ | ⟨g, cap, cur, S', hv, hg, hB, h1, h2, h3, _⟩
    · simp at hn
    · injection hv with hA _ _
      refine ⟨g, cur, hA, hg, hB, ?_⟩
      rw [h3]; show xs.length * 2 ≤ cap * 2; omega)
  clear hOw
  generalize xs.length = n at hn HRm ⊢
  go_enter Tryd.func16, Tryd.ntmps16
  go_wp2
  go_loopw [1, 5] (fun m i wr => ∃ j : Nat, j ≤ n ∧ i = .int .i64 j ∧ m = .int .i64 (k + 2 * (j : Int)) ∧ Hid (Only S w wr) ∧ Hid (Shape w wr)) (fun _ i _ => n - (intOf i).toNat)
  case atStart => exact ⟨0, Nat.zero_le _, rfl, by simp, Only.refl _ _, Shape.refl _⟩
  case round =>
    obtain ⟨j, hj, rfl, rfl, hO, hS⟩ := hrel
    by_cases hlt : j < n
    · obtain ⟨g, cur, rfl, hg, hB, hsz⟩ := (HRm.out.shape hS.out) (by omega)
      obtain ⟨⟨u0, k0⟩, f0⟩ := hB.there (i := j * 2) (by omega)
      obtain ⟨⟨u1, k1⟩, f1⟩ := hB.there (i := j * 2 + 1) (by omega)
      have hsum1 : IntKind.i64.wrap (k + 2 * (j : Int) + 1) = k + 2 * (j : Int) + 1 := by rw [IntKind.wrap_i64]; omega
      have hsum2 : IntKind.i64.wrap (k + 2 * (j : Int) + 1 + 1) = k + 2 * (j : Int) + 1 + 1 := by rw [IntKind.wrap_i64]; omega
      clear hB
      go_wp2
      go_roundw
      case rel => exact ⟨j + 1, by omega, by go_num, by rw [show k + 2 * ((j + 1 : Nat) : Int) = k + 2 * (j : Int) + 1 + 1 by omega], ((hO.out.setCell (p := ⟨g, j * 2, none⟩) hg _).setCell (p := ⟨g, j * 2 + 1, none⟩) hg _), hS.out.trans ((Shape.setCell _ _ _ _).trans (Shape.setCell _ _ _ _))⟩
      case measure => simp [intOf]; omega
    · obtain rfl : j = n := by omega
      go_wp2
      go_ret
      exact ⟨⟨_, rfl, by omega⟩, hO.out⟩
set_option maxRecDepth 10000 in
set_option maxHeartbeats 1000000 in
theorem markCallS_arg (xs : List Call) (k : Int) (A : Option Addr) (c : Nat) (w : World) (S : Nat → Prop) (hn : xs.length ≤ 1048576) (hk : k = 1) (hOw : Own tCall 80 w S xs (.slice A xs.length c)) :
    Calls Tryd.prog 27 #[.slice A xs.length c, .int .i64 k] w fun e w' => (∃ r : Int, e = .returned (.int .i64 r) ∧ 0 ≤ r) ∧ Only S w w' := by
  obtain ⟨hk0, hk1⟩ : 0 ≤ k ∧ k ≤ 4611686018427387904 := by omega
  clear hk
  have HRm := hide (show Room w S 80 A (xs.length * 4) from fun hn => by
    rcases hOw with ⟨h, rfl⟩ | ⟨g, cap, cur, S', hv, hg, hB, h1, h2, h3, _⟩
    · simp at hn
    · injection hv with hA _ _
      refine ⟨g, cur, hA, hg, hB, ?_⟩
      rw [h3]; show xs.length * 4 ≤ cap * 4; omega)
  clear hOw
  generalize xs.length = n at hn HRm ⊢
  go_enter Tryd.func27, Tryd.ntmps27
  go_wp2
  go_loopw [1, 5] (fun m i wr => ∃ j : Nat, j ≤ n ∧ i = .int .i64 j ∧ m = .int .i64 (k + 4 * (j : Int)) ∧ Hid (Only S w wr) ∧ Hid (Shape w wr)) (fun _ i _ => n - (intOf i).toNat)
  case atStart => exact ⟨0, Nat.zero_le _, rfl, by simp, Only.refl _ _, Shape.refl _⟩
  case round =>
    obtain ⟨j, hj, rfl, rfl, hO, hS⟩ := hrel
    by_cases hlt : j < n
    · obtain ⟨g, cur, rfl, hg, hB, hsz⟩ := (HRm.out.shape hS.out) (by omega)
      obtain ⟨⟨u0, k0⟩, f0⟩ := hB.there (i := j * 4) (by omega)
      obtain ⟨⟨u1, k1⟩, f1⟩ := hB.there (i := j * 4 + 1) (by omega)
      obtain ⟨⟨u2, k2⟩, f2⟩ := hB.there (i := j * 4 + 2) (by omega)
      obtain ⟨⟨u3, k3⟩, f3⟩ := hB.there (i := j * 4 + 3) (by omega)
      have hsum1 : IntKind.i64.wrap (k + 4 * (j : Int) + 1) = k + 4 * (j : Int) + 1 := by rw [IntKind.wrap_i64]; omega
      have hsum2 : IntKind.i64.wrap (k + 4 * (j : Int) + 1 + 1) = k + 4 * (j : Int) + 1 + 1 := by rw [IntKind.wrap_i64]; omega
      have hsum3 : IntKind.i64.wrap (k + 4 * (j : Int) + 1 + 1 + 1) = k + 4 * (j : Int) + 1 + 1 + 1 := by rw [IntKind.wrap_i64]; omega
      have hsum4 : IntKind.i64.wrap (k + 4 * (j : Int) + 1 + 1 + 1 + 1) = k + 4 * (j : Int) + 1 + 1 + 1 + 1 := by rw [IntKind.wrap_i64]; omega
      clear hB
      go_wp2
      go_roundw
      case rel => exact ⟨j + 1, by omega, by go_num, by rw [show k + 4 * ((j + 1 : Nat) : Int) = k + 4 * (j : Int) + 1 + 1 + 1 + 1 by omega], ((((hO.out.setCell (p := ⟨g, j * 4, none⟩) hg _).setCell (p := ⟨g, j * 4 + 1, none⟩) hg _).setCell (p := ⟨g, j * 4 + 2, none⟩) hg _).setCell (p := ⟨g, j * 4 + 3, none⟩) hg _), hS.out.trans ((((Shape.setCell _ _ _ _).trans (Shape.setCell _ _ _ _)).trans (Shape.setCell _ _ _ _)).trans (Shape.setCell _ _ _ _))⟩
      case measure => simp [intOf]; omega
    · obtain rfl : j = n := by omega
      go_wp2
      go_ret
      exact ⟨⟨_, rfl, by omega⟩, hO.out⟩
end Go.Proofs.YtmlbfhknapkhgaaDoor
