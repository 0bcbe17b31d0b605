/- Marks on the arguments where there are two: a history, and numbers. -/
import Derived.Test.YtmlbfhknapkhgaaDoorMarkT
namespace Go.Proofs.YtmlbfhknapkhgaaDoor
open Go.RowKit
set_option linter.unusedVariables false
set_option linter.unusedSimpArgs false

set_option maxRecDepth 10000 in
set_option maxHeartbeats 1000000 in
theorem markTxnS_arg2 (xs : List Txn) (k : Int) (A : Option Addr) (c : Nat) (w : World) (S : Nat → Prop) (hn : xs.length ≤ 1048576) (hs : ∀ x ∈ xs, x.Ops.length ≤ 1048576) (hk0 : k = 1) (hO : Own (tTxnO 95) 64 w S xs (.slice A xs.length c)) :
    Calls Tryd.prog 15 #[.slice A xs.length c, .int .i64 k] w fun e w' => (∃ r : Int, e = .returned (.int .i64 r) ∧ 0 ≤ r ∧ r ≤ 4611686018427387904) ∧ Only S w w' := by
  subst hk0
  have hOuter : 0 < xs.length → ∃ g cur S', A = some ⟨g, 0, none⟩ ∧ S g ∧ Blk w g 64 cur ∧ xs.length * 3 ≤ cur.size ∧ (∀ b, S' b → S b) ∧ RowAt (tTxnO 95) w S' g 0 xs := fun h => by
    rcases hO with ⟨_, rfl⟩ | ⟨g, cap, cur, S', hv, hg, hB, h1, _, h3, h4, h5⟩
    · simp at h
    · injection hv with hA _ _
      exact ⟨g, cur, S', hA, hg, hB, by rw [h3]; exact Nat.mul_le_mul_right 3 h1, fun b hb => (h4 b hb).1, h5⟩
  have HOut := hide hOuter
  clear hO hOuter
  go_enter Tryd.func15, Tryd.ntmps15
  go_wp2
  go_loopw [1, 5] (fun m i wr => ∃ (j : Nat) (r : Int), j ≤ xs.length ∧ i = .int .i64 j ∧ m = .int .i64 r ∧ 0 ≤ r ∧ r ≤ 1 + j * 4194304 ∧ Hid (Only S w wr) ∧ Hid (Shape w wr) ∧ Hid (∀ i (h : i < xs.length) g, A = some ⟨g, 0, none⟩ → wr.cell? ⟨g, i * 3 + 1, none⟩ = w.cell? ⟨g, i * 3 + 1, none⟩)) (fun _ i _ => xs.length - (intOf i).toNat)
  case atStart => exact ⟨0, 1, Nat.zero_le _, rfl, rfl, by omega, by omega, Only.refl _ _, Shape.refl _, fun _ _ _ _ => rfl⟩
  case round =>
    obtain ⟨j, r, hj, rfl, rfl, hr0, hr1, hOn, hSh, hCe⟩ := hrel
    by_cases hlt : j < xs.length
    · obtain ⟨g, cur, S', rfl, hg, hB, hsz, hSS, hrow⟩ := HOut.out (by omega)
      obtain ⟨cs, ⟨v, rfl, hOv⟩, hcs⟩ := hrow j hlt
      obtain ⟨cur', hB', hsz'⟩ := hSh.out g _ cur hB
      have c1 : wr.cell? ⟨g, j * 3 + 1, none⟩ = some v := by
        rw [hCe.out j hlt g rfl]
        simpa [tTxnO] using hcs 1 v rfl
      obtain ⟨⟨u0, k0⟩, f0⟩ := hB'.there (i := j * 3) (by omega)
      have hlen := hs _ (List.getElem_mem hlt)
      obtain ⟨A2, c2, rfl, _, _, _⟩ := hOv.sl
      have hRoom := hOv.roomOp
      have HC := hide (markOpS xs[j].Ops.length (r + 1) A2 c2 (wr.setCell ⟨g, j * 3, none⟩ (.int .i64 r)) S' (by omega) (by omega) (by omega) ((hRoom.shape hSh.out).shape (Shape.setCell _ _ _ _)))
      have HRoom := hide hRoom
      have HB := hide hB
      have HB' := hide (hB'.set_ (j * 3) (.int .i64 r))
      have HSz : Hid (j * 3 + 2 < (cur'.setIfInBounds (j * 3) (.int .i64 r)).size) := by show _ < _; simp; omega
      have HSS := hide hSS
      have hsum1 : IntKind.i64.wrap (r + 1) = r + 1 := by rw [IntKind.wrap_i64]; omega
      clear hOv hB hrow hcs hRoom hSS hB' hsz'
      generalize xs[j].Ops.length = ln at HC c1 hlen HRoom
      have hsum2 : IntKind.i64.wrap (r + 1 + 3 * (ln : Int) + 1) = r + 1 + 3 * (ln : Int) + 1 := by rw [IntKind.wrap_i64]; omega
      go_wp2_with (go_at_call 44; refine HC.out.mono ?_; rintro e w2 ⟨rfl, ho, hsh, _⟩; have hne2 : ∀ b, (S' b ∧ 0 < ln ∧ ∃ a, A2 = some a ∧ a.block = b) → b ≠ g := (fun b hb e => by obtain ⟨_, hp, a, hA, rfl⟩ := hb; obtain ⟨g2, cur2, hA2, _, hB2, _⟩ := HRoom.out (by omega); rw [hA] at hA2; have hh : a = ⟨g2, 0, none⟩ := (by simpa using hA2); subst hh; exact Blk.ne_ HB.out hB2 (by decide) e.symm); have HG2 := hide (ho.block g HB'.out.lt (fun h => hne2 g h rfl)); have hB2 := HB'.out.of HG2.out; obtain ⟨⟨u2, k2⟩, f2⟩ := hB2.there (i := j * 3 + 2) HSz.out; have HO2 := hide ho; have HS2 := hide hsh; have HB2 := hide hB2; clear ho hsh hne2 hB2)
      go_roundw
      case rel =>
        refine ⟨j + 1, _, by omega, by go_num, rfl, by omega, by omega, ((hOn.out.setCell (p := ⟨g, j * 3, none⟩) hg _).trans (HO2.out.mono (fun b hb => HSS.out b hb.1))).setCell (p := ⟨g, j * 3 + 2, none⟩) hg _, (hSh.out.trans (Shape.setCell _ _ _ _)).trans (HS2.out.trans (Shape.setCell _ _ _ _)), fun i hi g' hg' => ?_⟩
        obtain rfl : g = g' := by simpa using hg'
        rw [← hCe.out i hi g rfl, World.cell?_setCell_other _ _ _ _ (by intro e; injection e with _ e _; omega), World.cell?_of_block HG2.out, World.cell?_setCell_other _ _ _ _ (by intro e; injection e with _ e _; omega)]
      case measure => simp [intOf]; omega
    · obtain rfl : j = xs.length := by omega
      go_wp2
      go_ret
      exact ⟨⟨r, rfl, hr0, by omega⟩, hOn.out⟩

theorem markIntS_arg (xs : List Int) (k : Int) (A : Option Addr) (c : Nat) (w : World) (S : Nat → Prop) (hn : xs.length ≤ 1048576) (hk : 0 ≤ k ∧ k ≤ 4611686018427387904) (hO : Own tInt 3 w S xs (.slice A xs.length c)) :
    Calls Tryd.prog 17 #[.slice A xs.length c, .int .i64 k] w fun e w' => (∃ r : Int, e = .returned (.int .i64 r) ∧ 0 ≤ r) ∧ Only S w w' :=
  (markIntS xs.length k A c w S (by omega) hk.1 hk.2 hO.room).mono fun e w' ⟨e1, e2, _, _⟩ => ⟨⟨_, e1, by omega⟩, e2.mono fun b hb => hb.1⟩
end Go.Proofs.YtmlbfhknapkhgaaDoor
