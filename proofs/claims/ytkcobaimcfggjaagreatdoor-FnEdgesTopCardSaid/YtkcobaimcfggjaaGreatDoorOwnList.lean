/- The conversions of the laws package make new memory that reads as their argument: transactions. The reference's copies of transactions. The reference's copies of histories: l1OwnTxnList. -/
import Derived.Test.YtkcobaimcfggjaaGreatDoorProg
import Derived.Test.YtkcobaimcfggjaaGreatDoorBase
import Derived.Test.YtkcobaimcfggjaaGreatDoorElems
import Derived.Test.YtkcobaimcfggjaaGreatDoorToA
import Derived.Test.YtkcobaimcfggjaaGreatDoorPut
import Derived.Test.YtkcobaimcfggjaaGreatDoorRanges
namespace Go.Proofs.YtkcobaimcfggjaaGreatDoor
open Go.RowKit
set_option linter.unusedVariables false
set_option linter.unusedSimpArgs false

theorem infoTxn_ : (Tryz.prog.info? 38).map (fun i => (i.zero, i.size, i.bytes)) = some (some (.agg #[.int .i64 0, .slice none 0 0, .bool false]), 3, 40) := by kernel_rfl
theorem infoOpT : (Tryz.prog.info? 73).map (fun i => (i.zero, i.size, i.bytes)) = some (some (.agg #[.int .i64 0, .int .i64 0, .int .i64 0]), 3, 24) := by kernel_rfl
set_option maxRecDepth 10000 in
set_option maxHeartbeats 1000000 in
theorem ownTxn (t : Txn) (A : Option Addr) (c : Nat) (w : World) (hm : t.Ops.length ≤ 1048576) (hA : Row tOp w (Old w) A t.Ops) :
    Calls Tryz.prog 139 #[.agg #[.int .i64 t.Session, .slice A t.Ops.length c, .bool t.Done]] w fun e w' => ∃ v, e = .returned (.agg #[.int .i64 t.Session, v, .bool t.Done]) ∧ Own tOp 73 w' (New w w') t.Ops v ∧ Below w.heap.size w w' := by
  obtain ⟨i0, hi, hz0, hz1, hz2⟩ := info_parts infoOpT
  have HA := hide hA
  clear hA
  go_enter Tryz.func139, Tryz.ntmps139
  go_upto_region 2 with (fail)
  generalize hW : World.alloc _ _ = W
  have hb3 : Below w.heap.size w W := by rw [← hW]; exact (((Below.refl _ w).alloc (Nat.le_refl _) _).alloc (by simp) _).alloc (by simp; omega) _
  have hs3 : W.heap.size = w.heap.size + 3 := by rw [← hW]; simp
  have hB0 : Blk W w.heap.size 38 #[.int .i64 t.Session, .slice A t.Ops.length c, .bool t.Done] := by rw [← hW]; exact ((Blk.new w _ _).alloc _).alloc _
  have hB1 : Blk W (w.heap.size + 1) 38 #[.int .i64 0, .slice none 0 0, .bool false] := by rw [← hW]; have := (Blk.new (w.alloc (.cells #[.int .i64 t.Session, .slice A t.Ops.length c, .bool t.Done] 38)) 38 #[.int .i64 0, .slice none 0 0, .bool false]).alloc (.cells #[.int .i64 t.Session, .slice A t.Ops.length c, .bool t.Done] 38); simpa using this
  have hB2 : Blk W (w.heap.size + 1 + 1) 38 #[.int .i64 t.Session, .slice A t.Ops.length c, .bool t.Done] := by rw [← hW]; have := Blk.new ((w.alloc (.cells #[.int .i64 t.Session, .slice A t.Ops.length c, .bool t.Done] 38)).alloc (.cells #[.int .i64 0, .slice none 0 0, .bool false] 38)) 38 #[.int .i64 t.Session, .slice A t.Ops.length c, .bool t.Done]; simpa using this
  clear hW
  have c01 := hB0.cell 1
  simp only [List.getElem?_toArray, List.getElem?_cons_zero, List.getElem?_cons_succ] at c01
  have hz : w.heap.size < W.heap.size := by omega
  have HB := hide hb3; have HS := hide hs3; have H1 := hide hB1; have H2 := hide hB2
  have HOe := hide (Own.empty (T := tOp) (e := 73) W (fun b => W.heap.size ≤ b) (Nat.le_refl _))
  have HRy := hide (((HA.out.old hb3).old ((Below.refl _ W).alloc (Nat.le_refl _) (.cells #[] 73))).anyOp)
  clear hb3 hs3 hB0 hB1 hB2 HA
  go_wp2_with (at_builtin; refine wpList_cat tOp rfl (.tmp 5) (.tmp 7) 36 rfl 73 i0 _ 24 Tryz.underlying36 hi hz0 hz1 hz2 rfl (by decide) (fun b => W.heap.size ≤ b) (fun _ => False) [] t.Ops _ rfl HOe.out _ _ _ rfl rfl HRy.out (fun _ h => h.elim) (fun b hb => Nat.le_trans (by simp) hb) (by skip; simp only [maxLen, List.length_nil]; omega) (by skip; simp only [List.length_nil]; omega) ?_; intro v3 w4 hO_ hK_; have HO4 := hide hO_; have HK4 := hide ((Only.of_alloc (K := fun b => W.heap.size ≤ b) W (.cells #[] 73)).trans hK_); clear hO_ hK_; have H14 := hide (H1.out.of (HK4.out.block _ H1.out.lt (by have := H1.out.lt; omega))); have H24 := hide (H2.out.of (HK4.out.block _ H2.out.lt (by have := H2.out.lt; omega))); obtain ⟨d0, f0⟩ := (⟨H24.out.cell 0, H24.out.frozen 0⟩ : _ ∧ _); obtain ⟨d1, f1⟩ := (⟨H24.out.cell 1, H24.out.frozen 1⟩ : _ ∧ _); obtain ⟨d2, f2⟩ := (⟨H24.out.cell 2, H24.out.frozen 2⟩ : _ ∧ _); obtain ⟨e0, g0⟩ := (⟨H14.out.cell 0, H14.out.frozen 0⟩ : _ ∧ _); obtain ⟨e1, g1⟩ := (⟨H14.out.cell 1, H14.out.frozen 1⟩ : _ ∧ _); obtain ⟨e2, g2⟩ := (⟨H14.out.cell 2, H14.out.frozen 2⟩ : _ ∧ _); simp only [List.getElem?_toArray, List.getElem?_cons_zero, List.getElem?_cons_succ] at d0 d1 d2 e0 e1 e2; obtain ⟨A3, c3, rfl, h31, h32, _⟩ := HO4.out.sl)
  have HB4 := hide (below_only HB.out HK4.out HB.out.size (fun i hi => by have := HB.out.size; omega))
  refine bodyPost_ret (v := .agg #[.int .i64 t.Session, .slice A3 t.Ops.length c3, .bool t.Done]) (by simp [results, Tryz.results139, go_sem, e0, e1, e2]) rfl ⟨_, rfl, ?_, ?_⟩
  · refine Own.mono (S := In (w.heap.size + 3) w4.heap.size) ?_ (fun b h => ⟨by have := h.1; omega, by simpa using h.2⟩) (fun _ _ => rfl)
    repeat (first | refine Own.setLow (n := w.heap.size + 3) ?_ (fun b h => h.1) (by simp; try omega) _ | exact HO4.out.mono (fun b h => ⟨by have := HS.out; have := h.1; omega, h.2⟩) (fun _ _ => rfl))
  · repeat (first | refine Below.setCell ?_ (by simp; try omega) _ | exact HB4.out)
theorem New.of_K {w w' : World} {α : Type} {T : Ty α} {e : TypeId} {xs : List α} {v : Value} (h : Own T e w' (fun b => w.heap.size ≤ b ∧ Old w' b) xs v) : Own T e w' (New w w') xs v := h
theorem take_snoc' {α : Type} (xs : List α) (k : Nat) (h : k < xs.length) : xs.take (k + 1) = xs.take k ++ [xs[k]] := List.take_succ_eq_append_getElem h
set_option maxRecDepth 10000 in
set_option maxHeartbeats 1000000 in
theorem ownTxnList (xs : List Txn) (A : Option Addr) (c : Nat) (w : World) (hm : xs.length ≤ 1048576) (hn : ∀ x ∈ xs, x.Ops.length ≤ 1048576) (hA : Row tTxn w (Old w) A xs) :
    Calls Tryz.prog 76 #[.slice A xs.length c] w fun e w' => ∃ v, e = .returned v ∧ Own (tTxnO 73) 38 w' (New w w') xs v ∧ Below w.heap.size w w' := by
  obtain ⟨i0, hi, hz0, hz1, hz2⟩ := info_parts infoTxn_
  have HA := hide hA
  have HN := hide hn
  clear hA hn
  go_enter Tryz.func76, Tryz.ntmps76
  go_wp2
  go_loopw [3, 4] (fun v i wr => ∃ k : Nat, k ≤ xs.length ∧ i = .int .i64 k ∧ Hid (Own (tTxnO 73) 38 wr (fun b => w.heap.size ≤ b ∧ Old wr b) (xs.take k) v) ∧ Below w.heap.size w wr) (fun _ i _ => xs.length - (intOf i).toNat)
  case atStart => exact ⟨0, Nat.zero_le _, rfl, Own.empty w (fun b => w.heap.size ≤ b) (Nat.le_refl _), (Below.refl _ _).alloc (Nat.le_refl _) _⟩
  case round =>
    obtain ⟨k, hk, rfl, hO, hb⟩ := hrel
    by_cases hlt : k < xs.length
    · obtain ⟨b, off, A2, c2, rfl, hbS, c0, c1, c3, hi1, hi2, hi3⟩ := at_Txn HA.out hb hlt
      have HC := hide (ownTxn xs[k] A2 c2 wr (HN.out _ (List.getElem_mem hlt)) hi3)
      have HS := hide (take_snoc' xs k hlt)
      have HB := hide hb
      have HL := hide (own_lt (B := wr.heap.size) hO.out (fun b h => h.2))
      clear hi1 hi2 hi3
      go_wp2_with (first | (go_at_call 139; refine HC.out.mono ?_; rintro e w' ⟨v2, rfl, hO2, hb2⟩; have HO2 := hide hO2; have HB2 := hide hb2; have HO1 := hide (hO.out.onlyBelow hb2); clear hO2 hb2 hO) | (at_builtin; refine wpList_put (tTxnO 73) rfl (.tmp 12) (.tmp 18) 23 rfl 38 i0 _ 40 Tryz.underlying23 hi hz0 hz1 hz2 rfl (by decide) (fun b => w.heap.size ≤ b) (New wr w') (xs.take k) xs[k] [.int .i64 xs[k].Session, v2, .bool xs[k].Done] _ rfl HO1.out _ rfl ⟨_, rfl, HO2.out⟩ (fun b h => ⟨Nat.le_trans HB.out.size h.1, h.2, fun e => by have := HL.out b e; have := h.1; omega⟩) (fun b hb => Nat.le_trans (Nat.le_trans HB.out.size HB2.out.size) hb) (by rw [List.length_take]; simp only [maxLen]; omega) (by rw [List.length_take]; omega) ?_; intro v3 w3 hO_ hK_; have HO3 := hide hO_; have HK3 := hide hK_; clear hO_ hK_))
      go_roundw
      case rel => exact ⟨k + 1, by omega, by go_num, by rw [HS.out]; exact HO3.out, below_only (HB.out.trans (HB2.out.mono HB.out.size)) HK3.out (Nat.le_trans HB.out.size HB2.out.size) (fun _ h => h)⟩
      case measure => simp [intOf]; omega
    · obtain rfl : k = xs.length := by omega
      have HS := hide (show xs.take xs.length = xs from List.take_length)
      go_wp2
      go_ret
      exact ⟨_, rfl, by have := hO.out; rw [HS.out] at this; exact this, hb⟩
end Go.Proofs.YtkcobaimcfggjaaGreatDoor
