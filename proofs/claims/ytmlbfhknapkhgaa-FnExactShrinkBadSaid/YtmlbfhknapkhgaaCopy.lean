/- The program's copies: slices.Clone, slices.Clip of operations; copyTxn, copyHistory. -/
import Derived.Test.YtmlbfhknapkhgaaHold
import Derived.Test.YtmlbfhknapkhgaaOwnList
import Derived.WalkSpells
namespace Go.Proofs.Ytmlbfhknapkhgaa
open Go.RowKit
set_option linter.unusedVariables false

set_option maxRecDepth 10000 in
set_option maxHeartbeats 400000 in
theorem clone_Op (xs : List Op) (A : Option Addr) (c : Nat) (w : World) (hl : xs.length ≤ 1048576) (hA : Row tOp w (Old w) A xs) :
    Calls Try.prog 148 #[.slice A xs.length c] w fun e w' => ∃ v, e = .returned v ∧ Own tOp 68 w' (New w w') xs v ∧ Below w.heap.size w w' := by
  obtain ⟨i0, hi, hz0, hz1, hz2⟩ := info_parts infoOpT
  have qT : ∀ (w : World) (a : Option Addr) (n c n' c' : Nat), (binOp .eql 64 (.slice a n c) (.slice none n' c')).run Try.prog w = .ok (.bool a.isNone) w := fun w a n c n' c' => Lib.run_eql_slice_nil w _ _ a n c n' c' Try.underlying64
  rcases A with _ | A
  · have hnil : xs = [] := by
      rcases Nat.eq_zero_or_pos xs.length with h | h
      · exact List.eq_nil_of_length_eq_zero h
      · obtain ⟨b, off, hb, _⟩ := hA h; cases hb
    have HN := hide hnil
    clear hnil hA
    go_enter Try.func148, Try.ntmps148
    go_wp2
    go_ret
    exact ⟨_, rfl, by rw [HN.out]; exact Own.nil_, Below.refl _ _⟩
  · have HO := hide (Own.made (T := tOp) (e := 68) w (S := fun b => b = w.heap.size) #[] 0 (by simp) (by simp [maxLen]) rfl)
    have HR := hide ((hA.mono (w' := w.alloc (.cells #[] 68)) (S' := Old w) (fun _ h => h) (fun b h => Below.heap_alloc _ _ _ h)).anyOp)
    clear hA
    go_enter Try.func148, Try.ntmps148
    go_wp2_with (at_builtin; refine wpList_app tOp rfl (.tmp 5) (.tmp 6) 64 rfl 68 i0 _ 24 Try.underlying64 hi hz0 hz1 hz2 rfl (by decide) (fun b => b = w.heap.size) (fun _ => False) (fun b => w.heap.size ≤ b) [] xs _ rfl HO.out _ xs.length c rfl rfl HR.out (by simp only [maxLen, List.length_nil]; omega) (by simp only [List.length_nil]; omega) (fun b h => by subst h; simp [Old]) (fun b h => h.elim) (fun b h => by omega) (fun b h => h.elim) (by simp) ?_; intro v' w' hO2 hg2; have HO2 := hide hO2; have HG := hide hg2; clear hO2 hg2)
    go_ret
    refine ⟨v', rfl, HO2.out, ((Below.refl _ w).alloc (Nat.le_refl _) _).grown HG.out (by simp) (fun k hk => ?_)⟩
    have hk2 : some w.heap.size = some k := hk
    injection hk2 with hk3
    exact Nat.le_of_eq hk3

theorem clip_Op (n : Nat) (A : Option Addr) (c : Nat) (w : World) (hl : n ≤ c) (hc : c ≤ maxLen) :
    Calls Try.prog 113 #[.slice A n c] w fun e w' => e = .returned (.slice A n n) ∧ w = w' := by
  unfold maxLen at hc
  have h1 : (0 : Int) ≤ (n : Int) := by omega
  have h2 : (n : Int) ≤ (c : Int) := by omega
  go_enter Try.func113, Try.ntmps113
  go_wp2
  go_ret
  exact ⟨rfl, rfl⟩

theorem clip_Txn (n : Nat) (A : Option Addr) (c : Nat) (w : World) (hl : n ≤ c) (hc : c ≤ maxLen) :
    Calls Try.prog 116 #[.slice A n c] w fun e w' => e = .returned (.slice A n n) ∧ w = w' := by
  unfold maxLen at hc
  have h1 : (0 : Int) ≤ (n : Int) := by omega
  have h2 : (n : Int) ≤ (c : Int) := by omega
  go_enter Try.func116, Try.ntmps116
  go_wp2
  go_ret
  exact ⟨rfl, rfl⟩

set_option maxRecDepth 10000 in
set_option maxHeartbeats 1000000 in
theorem copyTxn (t : Txn) (A : Option Addr) (c : Nat) (w : World) (hm : t.Ops.length ≤ 1048576) (hA : Row tOp w (Old w) A t.Ops) :
    Calls Try.prog 112 #[.agg #[.int .i64 t.Session, .slice A t.Ops.length c, .bool t.Done]] w fun e w' => ∃ v g, e = .returned (.agg #[.int .i64 t.Session, v, .bool t.Done]) ∧ Hold tOp 68 w' (New w w') t.Ops v g ∧ New w w' g ∧ Below w.heap.size w w' := by
  have HA := hide hA
  clear hA
  go_enter Try.func112, Try.ntmps112
  go_upto_region 1 with (fail)
  generalize hW : World.alloc _ _ = W
  have hb3 : Below w.heap.size w W := by rw [← hW]; exact ((Below.refl _ w).alloc (Nat.le_refl _) _).alloc (by simp) _
  have hs3 : W.heap.size = w.heap.size + 2 := by rw [← hW]; simp
  have hB0 : Blk W w.heap.size 66 #[.int .i64 t.Session, .slice A t.Ops.length c, .bool t.Done] := by rw [← hW]; exact (Blk.new w _ _).alloc _
  have hB1 : Blk W (w.heap.size + 1) 66 #[.int .i64 0, .slice none 0 0, .bool false] := by rw [← hW]; have := (Blk.new (w.alloc (.cells #[.int .i64 t.Session, .slice A t.Ops.length c, .bool t.Done] 66)) 66 #[.int .i64 0, .slice none 0 0, .bool false]); simpa using this
  clear hW
  have c01 := hB0.cell 1
  simp only [List.getElem?_toArray, List.getElem?_cons_zero, List.getElem?_cons_succ] at c01
  have HB := hide hb3; have HS := hide hs3; have H0 := hide hB0; have H1 := hide hB1
  have HC := hide (clone_Op t.Ops A c W hm (HA.out.old hb3))
  clear hb3 hs3 hB0 hB1 HA
  go_wp2_with (first | (go_at_call 148; refine HC.out.mono ?_; rintro e w4 ⟨v, rfl, hO, hb4⟩; obtain ⟨A3, c3, rfl, h31, h32, _⟩ := hO.sl; have HO := hide hO; have HB4 := hide hb4; clear hO; have h04 := H0.out.below hb4 H0.out.lt; have h14 := H1.out.below hb4 H1.out.lt; have d0 := h04.cell 0; have d1 := h04.cell 1; have d2 := h04.cell 2; have f1 := h04.frozen 1; have e0 := h14.cell 0; have e1 := h14.cell 1; have e2 := h14.cell 2; have g0 := h14.frozen 0; have g1 := h14.frozen 1; have g2 := h14.frozen 2; simp only [List.getElem?_toArray, List.getElem?_cons_zero, List.getElem?_cons_succ] at d0 d1 d2 e0 e1 e2; clear h04 h14 hb4) | (go_at_call 113; refine (clip_Op _ _ _ _ h31 h32).mono ?_; rintro e w' ⟨rfl, rfl⟩))
  obtain ⟨g, hH, hg⟩ := HO.out.holdAt (w.heap.size)
  have HB5 := hide (HB.out.trans (HB4.out.mono HB.out.size))
  have hsz : w.heap.size + 2 ≤ w4.heap.size := by have := HS.out; have := HB4.out.size; omega
  have HH := hide (hH.clip.mono (w' := w4) (S2 := In (w.heap.size + 2) w4.heap.size) (fun b h => ⟨by have := HS.out; have := h.1; omega, h.2⟩) (fun _ _ => rfl))
  refine bodyPost_ret (v := .agg #[.int .i64 t.Session, .slice A3 t.Ops.length t.Ops.length, .bool t.Done]) (by simp [results, Try.results112, go_sem, e0, e1, e2]) rfl ⟨_, g, rfl, ?_, ?_, ?_⟩
  · refine HH.out.mono (fun b h => ⟨by have := h.1; omega, by simpa using h.2⟩) (fun b h => ?_)
    have := h.1
    repeat (first | rw [Below.heap_setCell _ _ _ _ (by simp; try omega)])
  · rcases hg with hg | rfl
    · exact ⟨by have := HS.out; have := hg.1; omega, by simpa using hg.2⟩
    · exact ⟨Nat.le_refl _, by simp; omega⟩
  · repeat (first | refine Below.setCell ?_ (by simp; try omega) _ | exact HB5.out)
end Go.Proofs.Ytmlbfhknapkhgaa
