/- The reference's copies of transactions. -/
import Derived.Test.YtmlbfhknapkhgaaPut
import Derived.Test.YtmlbfhknapkhgaaToC
import Derived.Test.YtmlbfhknapkhgaaElems
import Derived.Test.YtmlbfhknapkhgaaRanges
namespace Go.Proofs.Ytmlbfhknapkhgaa
open Go.RowKit
set_option linter.unusedVariables false

theorem infoOpT : (Try.prog.info? 68).map (fun i => (i.zero, i.size, i.bytes)) = some (some (.agg #[.int .i64 0, .int .i64 0, .int .i64 0]), 3, 24) := by kernel_rfl
set_option maxRecDepth 10000 in
set_option maxHeartbeats 1000000 in
theorem ownTxn (t : Txn) (A : Option Addr) (c : Nat) (w : World) (hm : t.Ops.length ≤ 1048576) (hA : Row tOp w (Old w) A t.Ops) :
    Calls Try.prog 103 #[.agg #[.int .i64 t.Session, .slice A t.Ops.length c, .bool t.Done]] w fun e w' => ∃ v, e = .returned (.agg #[.int .i64 t.Session, v, .bool t.Done]) ∧ Own tOp 68 w' (New w w') t.Ops v ∧ Below w.heap.size w w' := by
  obtain ⟨i0, hi, hz0, hz1, hz2⟩ := info_parts infoOpT
  have HA := hide hA
  clear hA
  go_enter Try.func103, Try.ntmps103
  go_upto_region 2 with (fail)
  generalize hW : World.alloc _ _ = W
  have hb3 : Below w.heap.size w W := by rw [← hW]; exact (((Below.refl _ w).alloc (Nat.le_refl _) _).alloc (by simp) _).alloc (by simp; omega) _
  have hs3 : W.heap.size = w.heap.size + 3 := by rw [← hW]; simp
  have hB0 : Blk W w.heap.size 66 #[.int .i64 t.Session, .slice A t.Ops.length c, .bool t.Done] := by rw [← hW]; exact ((Blk.new w _ _).alloc _).alloc _
  have hB1 : Blk W (w.heap.size + 1) 66 #[.int .i64 0, .slice none 0 0, .bool false] := by rw [← hW]; have := (Blk.new (w.alloc (.cells #[.int .i64 t.Session, .slice A t.Ops.length c, .bool t.Done] 66)) 66 #[.int .i64 0, .slice none 0 0, .bool false]).alloc (.cells #[.int .i64 t.Session, .slice A t.Ops.length c, .bool t.Done] 66); simpa using this
  have hB2 : Blk W (w.heap.size + 1 + 1) 66 #[.int .i64 t.Session, .slice A t.Ops.length c, .bool t.Done] := by rw [← hW]; have := Blk.new ((w.alloc (.cells #[.int .i64 t.Session, .slice A t.Ops.length c, .bool t.Done] 66)).alloc (.cells #[.int .i64 0, .slice none 0 0, .bool false] 66)) 66 #[.int .i64 t.Session, .slice A t.Ops.length c, .bool t.Done]; simpa using this
  clear hW
  have c01 := hB0.cell 1
  simp only [List.getElem?_toArray, List.getElem?_cons_zero, List.getElem?_cons_succ] at c01
  have hz : w.heap.size < W.heap.size := by omega
  have HB := hide hb3; have HS := hide hs3; have H1 := hide hB1; have H2 := hide hB2
  have HOe := hide (Own.empty (T := tOp) (e := 68) W (fun b => W.heap.size ≤ b) (Nat.le_refl _))
  have HRy := hide (((HA.out.old hb3).old ((Below.refl _ W).alloc (Nat.le_refl _) (.cells #[] 68))).anyOp)
  clear hb3 hs3 hB0 hB1 hB2 HA
  go_wp2_with (at_builtin; refine wpList_cat tOp rfl (.tmp 5) (.tmp 7) 64 rfl 68 i0 _ 24 Try.underlying64 hi hz0 hz1 hz2 rfl (by decide) (fun b => W.heap.size ≤ b) (fun _ => False) [] t.Ops _ rfl HOe.out _ _ _ rfl rfl HRy.out (fun _ h => h.elim) (fun b hb => Nat.le_trans (by simp) hb) (by skip; simp only [maxLen, List.length_nil]; omega) (by skip; simp only [List.length_nil]; omega) ?_; intro v3 w4 hO_ hK_; have HO4 := hide hO_; have HK4 := hide ((Only.of_alloc (K := fun b => W.heap.size ≤ b) W (.cells #[] 68)).trans hK_); clear hO_ hK_; have H14 := hide (H1.out.of (HK4.out.block _ H1.out.lt (by have := H1.out.lt; omega))); have H24 := hide (H2.out.of (HK4.out.block _ H2.out.lt (by have := H2.out.lt; omega))); obtain ⟨d0, f0⟩ := (⟨H24.out.cell 0, H24.out.frozen 0⟩ : _ ∧ _); obtain ⟨d1, f1⟩ := (⟨H24.out.cell 1, H24.out.frozen 1⟩ : _ ∧ _); obtain ⟨d2, f2⟩ := (⟨H24.out.cell 2, H24.out.frozen 2⟩ : _ ∧ _); obtain ⟨e0, g0⟩ := (⟨H14.out.cell 0, H14.out.frozen 0⟩ : _ ∧ _); obtain ⟨e1, g1⟩ := (⟨H14.out.cell 1, H14.out.frozen 1⟩ : _ ∧ _); obtain ⟨e2, g2⟩ := (⟨H14.out.cell 2, H14.out.frozen 2⟩ : _ ∧ _); simp only [List.getElem?_toArray, List.getElem?_cons_zero, List.getElem?_cons_succ] at d0 d1 d2 e0 e1 e2; obtain ⟨A3, c3, rfl, h31, h32, _⟩ := HO4.out.sl)
  have HB4 := hide (below_only HB.out HK4.out HB.out.size (fun i hi => by have := HB.out.size; omega))
  refine bodyPost_ret (v := .agg #[.int .i64 t.Session, .slice A3 t.Ops.length c3, .bool t.Done]) (by simp [results, Try.results103, go_sem, e0, e1, e2]) rfl ⟨_, rfl, ?_, ?_⟩
  · refine Own.mono (S := In (w.heap.size + 3) w4.heap.size) ?_ (fun b h => ⟨by have := h.1; omega, by simpa using h.2⟩) (fun _ _ => rfl)
    repeat (first | refine Own.setLow (n := w.heap.size + 3) ?_ (fun b h => h.1) (by simp; try omega) _ | exact HO4.out.mono (fun b h => ⟨by have := HS.out; have := h.1; omega, h.2⟩) (fun _ _ => rfl))
  · repeat (first | refine Below.setCell ?_ (by simp; try omega) _ | exact HB4.out)
end Go.Proofs.Ytmlbfhknapkhgaa
