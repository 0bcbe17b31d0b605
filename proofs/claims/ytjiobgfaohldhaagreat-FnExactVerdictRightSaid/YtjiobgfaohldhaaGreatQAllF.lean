/- The conversions of the laws package make new memory that reads as their argument: transactions. The reference's copies of transactions. The reference's copies of histories: l1OwnTxnList. The conversions of the laws package make new memory that reads as their argument: calls, lists of lists, drafts. Slices that read as a list and may be written, each in a block that is known; rows of transactions whose operations lie in blocks of their own. A slice that has room for what is put into it; the slice of an order that is being searched. Numbers in memory of the call's own that can be marked. What searches share: one more number put behind a list; what is found. The facts of the drawn region of the reference's AllOrders. The reference's copies of lists of lists: l1OwnRowsInt. -/
import Derived.Test.YtjiobgfaohldhaaGreatProg
import Derived.Test.YtjiobgfaohldhaaGreatQToA
import Derived.Test.YtjiobgfaohldhaaGreatQRanges
import Derived.Laws.AppendOwn
import Derived.ArgAppend
import Derived.Deep.RegionLaw
namespace Go.Proofs.YtjiobgfaohldhaaGreat
open Go.RowKit
set_option linter.unusedVariables false
set_option linter.unusedSimpArgs false

set_option maxHeartbeats 400000 in
theorem toTxn (x : Txn) (A2 : Option Addr) (c2 : Nat) (w : World) (hl : x.Ops.length ≤ 1048576) (hA : Row tOp w (Old w) A2 x.Ops) :
    Calls Tryz.prog 26 #[.agg #[.int .i64 x.Session, .slice A2 x.Ops.length c2, .bool x.Done]] w fun e w' => ∃ v, e = .returned (.agg #[.int .i64 x.Session, v, .bool x.Done]) ∧ Own tOp 82 w' (New w w') x.Ops v ∧ Below w.heap.size w w' := by
  go_enter Tryz.func26, Tryz.ntmps26
  go_wp2_with (go_at_call 64; refine (toOpS _ _ _ _ hl (hA.old ((((Below.refl _ w).alloc (Nat.le_refl _) _).alloc (by simp) _).alloc (by simp; omega) _))).mono ?_; rintro e w' ⟨v, rfl, hO, hb'⟩; obtain ⟨A3, c3, rfl, _, _, _⟩ := hO.sl; obtain ⟨hc, hf⟩ := bcell hb'; have hz : w.heap.size + 3 ≤ w'.heap.size := (by have := hb'.size; simpa using this); have HB := hide hb'; clear hb'; have HO := hide hO; clear hO)
  have hb0 : Below w.heap.size w w' := ((((Below.refl _ w).alloc (Nat.le_refl _) _).alloc (by simp) _).alloc (by simp; omega) _).trans (HB.out.mono (by simp; omega))
  have HB0 := hide hb0; clear hb0
  refine bodyPost_ret (v := .agg #[.int .i64 x.Session, .slice A3 x.Ops.length c3, .bool x.Done]) (by simp [results, Tryz.results26, go_sem, hc]) rfl ⟨_, rfl, ?_, ?_⟩
  · refine Own.mono (S := In (w.heap.size + 3) w'.heap.size) ?_ (fun b h => ⟨by have := h.1; omega, by simpa using h.2⟩) (fun _ _ => rfl)
    repeat (first | refine Own.setLow (n := w.heap.size + 3) ?_ (fun b h => h.1) (by simp; try omega) _ | exact HO.out.mono (fun b h => ⟨by simpa using h.1, h.2⟩) (fun _ _ => rfl))
  · repeat (first | refine Below.setCell ?_ (by simp; try omega) _ | exact HB0.out)
theorem infoTxn_ : (Tryz.prog.info? 57).map (fun i => (i.zero, i.size, i.bytes)) = some (some (.agg #[.int .i64 0, .slice none 0 0, .bool false]), 3, 40) := by kernel_rfl
set_option maxRecDepth 10000 in
set_option maxHeartbeats 400000 in
theorem toTxnS (xs : List Txn) (A : Option Addr) (c : Nat) (w : World) (hl : xs.length ≤ 1048576) (hn : ∀ x ∈ xs, x.Ops.length ≤ 1048576) (hA : Row tTxn w (Old w) A xs) :
    Calls Tryz.prog 8 #[.slice A xs.length c] w fun e w' => ∃ v, e = .returned v ∧ Own (tTxnO 82) 57 w' (New w w') xs v ∧ Below w.heap.size w w' := by
  obtain ⟨i0, hi, hz0, hz1, hz2⟩ := info_parts infoTxn_
  have hmk := fun W => run_make_rowN (P := Tryz.prog) 30 57 i0 _ Tryz.underlying30 hi hz0 .i64 .i64 xs.length xs.length (Nat.le_refl _) (by rw [hz2]; omega) (by omega) W
  rw [hz1] at hmk
  clear hz0 hz1 hz2 hi
  go_enter Tryz.func8, Tryz.ntmps8
  go_wp2
  clear hmk
  go_loopw [4] (fun i wr => ∃ k m : Nat, k ≤ xs.length ∧ i = .int .i64 k ∧ Below w.heap.size w wr ∧ w.heap.size < wr.heap.size ∧ m ≤ wr.heap.size ∧ Filling (tTxnO 82) 57 wr (In (w.heap.size + 1) m) w.heap.size xs.length k xs) (fun i _ => xs.length - (intOf i).toNat)
  case atStart => exact ⟨0, 0, Nat.zero_le _, rfl, (Below.refl _ _).alloc (Nat.le_refl _) _, by simp, Nat.zero_le _, Filling.made _ _ _ _ _ (In (w.heap.size + 1) 0) (by show _ = xs.length * 3; omega) (fun h => absurd h.2 (by omega))⟩
  case round =>
    obtain ⟨k, m, hk, rfl, hb, hsz, hm, hF⟩ := hrel
    by_cases hlt : k < xs.length
    · have hi0 := hn xs[k] (List.getElem_mem hlt)
      obtain ⟨b, off, A2, c2, rfl, hbS, c0_, c1_, c2_, hi1, hi2, hi3⟩ := at_Txn hA hb hlt
      clear hA hn
      go_wp2_with (go_at_call 26; refine (toTxn _ _ _ _ hi0 hi3).mono ?_; rintro e w' ⟨v, rfl, hO, hb'⟩; obtain ⟨A3, c3, rfl, _, _, _⟩ := hO.sl; have hF2 := hF.later (S' := In (w.heap.size + 1) w'.heap.size) hb' (fun b h => ⟨h.1, by have := h.2; have := hb'.size; omega⟩) (fun b h => by have := h.2; unfold Old; omega) (fun h => by have := h.1; omega); clear hF; obtain ⟨⟨u0, k0⟩, f0⟩ := hF2.there (i := k * 3) (by show k * 3 < xs.length * 3; omega); obtain ⟨⟨u1, k1⟩, f1⟩ := hF2.there (i := k * 3 + 1) (by show k * 3 + 1 < xs.length * 3; omega); obtain ⟨⟨u2, k2⟩, f2⟩ := hF2.there (i := k * 3 + 2) (by show k * 3 + 2 < xs.length * 3; omega))
      go_roundw
      case rel => exact ⟨k + 1, w'.heap.size, by omega, by go_num, ((((hb.trans (hb'.mono hb.size)).setCell (p := ⟨w.heap.size, k * 3, none⟩) (Nat.le_refl _) (.int .i64 xs[k].Session)).setCell (p := ⟨w.heap.size, k * 3 + 1, none⟩) (Nat.le_refl _) (.slice A3 xs[k].Ops.length c3)).setCell (p := ⟨w.heap.size, k * 3 + 2, none⟩) (Nat.le_refl _) (.bool xs[k].Done)), by simpa using (Nat.lt_of_lt_of_le hsz hb'.size), by simp, hF2.put3 rfl hlt hlt _ _ _ (⟨_, rfl, hO.mono (fun b h => ⟨by have := h.1; omega, h.2⟩) (fun _ _ => rfl)⟩)⟩
      case measure => simp [intOf]; omega
    · obtain rfl : k = xs.length := by omega
      clear hA hn
      go_wp2
      go_ret
      exact ⟨_, rfl, hF.own rfl (by simp only [maxLen]; omega) ⟨Nat.le_refl _, hsz⟩ (fun b h => ⟨by have := h.1; omega, by have := h.2; omega⟩), hb⟩
theorem infoOpT : (Tryz.prog.info? 82).map (fun i => (i.zero, i.size, i.bytes)) = some (some (.agg #[.int .i64 0, .int .i64 0, .int .i64 0]), 3, 24) := by kernel_rfl
set_option maxRecDepth 10000 in
set_option maxHeartbeats 1000000 in
theorem ownTxn (t : Txn) (A : Option Addr) (c : Nat) (w : World) (hm : t.Ops.length ≤ 1048576) (hA : Row tOp w (Old w) A t.Ops) :
    Calls Tryz.prog 74 #[.agg #[.int .i64 t.Session, .slice A t.Ops.length c, .bool t.Done]] w fun e w' => ∃ v, e = .returned (.agg #[.int .i64 t.Session, v, .bool t.Done]) ∧ Own tOp 82 w' (New w w') t.Ops v ∧ Below w.heap.size w w' := by
  obtain ⟨i0, hi, hz0, hz1, hz2⟩ := info_parts infoOpT
  have HA := hide hA
  clear hA
  go_enter Tryz.func74, Tryz.ntmps74
  go_upto_region 2 with (fail)
  generalize hW : World.alloc _ _ = W
  have hb3 : Below w.heap.size w W := by rw [← hW]; exact (((Below.refl _ w).alloc (Nat.le_refl _) _).alloc (by simp) _).alloc (by simp; omega) _
  have hs3 : W.heap.size = w.heap.size + 3 := by rw [← hW]; simp
  have hB0 : Blk W w.heap.size 57 #[.int .i64 t.Session, .slice A t.Ops.length c, .bool t.Done] := by rw [← hW]; exact ((Blk.new w _ _).alloc _).alloc _
  have hB1 : Blk W (w.heap.size + 1) 57 #[.int .i64 0, .slice none 0 0, .bool false] := by rw [← hW]; have := (Blk.new (w.alloc (.cells #[.int .i64 t.Session, .slice A t.Ops.length c, .bool t.Done] 57)) 57 #[.int .i64 0, .slice none 0 0, .bool false]).alloc (.cells #[.int .i64 t.Session, .slice A t.Ops.length c, .bool t.Done] 57); simpa using this
  have hB2 : Blk W (w.heap.size + 1 + 1) 57 #[.int .i64 t.Session, .slice A t.Ops.length c, .bool t.Done] := by rw [← hW]; have := Blk.new ((w.alloc (.cells #[.int .i64 t.Session, .slice A t.Ops.length c, .bool t.Done] 57)).alloc (.cells #[.int .i64 0, .slice none 0 0, .bool false] 57)) 57 #[.int .i64 t.Session, .slice A t.Ops.length c, .bool t.Done]; simpa using this
  clear hW
  have c01 := hB0.cell 1
  simp only [List.getElem?_toArray, List.getElem?_cons_zero, List.getElem?_cons_succ] at c01
  have hz : w.heap.size < W.heap.size := by omega
  have HB := hide hb3; have HS := hide hs3; have H1 := hide hB1; have H2 := hide hB2
  have HOe := hide (Own.empty (T := tOp) (e := 82) W (fun b => W.heap.size ≤ b) (Nat.le_refl _))
  have HRy := hide (((HA.out.old hb3).old ((Below.refl _ W).alloc (Nat.le_refl _) (.cells #[] 82))).anyOp)
  clear hb3 hs3 hB0 hB1 hB2 HA
  go_wp2_with (at_builtin; refine wpList_cat tOp rfl (.tmp 5) (.tmp 7) 55 rfl 82 i0 _ 24 Tryz.underlying55 hi hz0 hz1 hz2 rfl (by decide) (fun b => W.heap.size ≤ b) (fun _ => False) [] t.Ops _ rfl HOe.out _ _ _ rfl rfl HRy.out (fun _ h => h.elim) (fun b hb => Nat.le_trans (by simp) hb) (by skip; simp only [maxLen, List.length_nil]; omega) (by skip; simp only [List.length_nil]; omega) ?_; intro v3 w4 hO_ hK_; have HO4 := hide hO_; have HK4 := hide ((Only.of_alloc (K := fun b => W.heap.size ≤ b) W (.cells #[] 82)).trans hK_); clear hO_ hK_; have H14 := hide (H1.out.of (HK4.out.block _ H1.out.lt (by have := H1.out.lt; omega))); have H24 := hide (H2.out.of (HK4.out.block _ H2.out.lt (by have := H2.out.lt; omega))); obtain ⟨d0, f0⟩ := (⟨H24.out.cell 0, H24.out.frozen 0⟩ : _ ∧ _); obtain ⟨d1, f1⟩ := (⟨H24.out.cell 1, H24.out.frozen 1⟩ : _ ∧ _); obtain ⟨d2, f2⟩ := (⟨H24.out.cell 2, H24.out.frozen 2⟩ : _ ∧ _); obtain ⟨e0, g0⟩ := (⟨H14.out.cell 0, H14.out.frozen 0⟩ : _ ∧ _); obtain ⟨e1, g1⟩ := (⟨H14.out.cell 1, H14.out.frozen 1⟩ : _ ∧ _); obtain ⟨e2, g2⟩ := (⟨H14.out.cell 2, H14.out.frozen 2⟩ : _ ∧ _); simp only [List.getElem?_toArray, List.getElem?_cons_zero, List.getElem?_cons_succ] at d0 d1 d2 e0 e1 e2; obtain ⟨A3, c3, rfl, h31, h32, _⟩ := HO4.out.sl)
  have HB4 := hide (below_only HB.out HK4.out HB.out.size (fun i hi => by have := HB.out.size; omega))
  refine bodyPost_ret (v := .agg #[.int .i64 t.Session, .slice A3 t.Ops.length c3, .bool t.Done]) (by simp [results, Tryz.results74, go_sem, e0, e1, e2]) rfl ⟨_, rfl, ?_, ?_⟩
  · refine Own.mono (S := In (w.heap.size + 3) w4.heap.size) ?_ (fun b h => ⟨by have := h.1; omega, by simpa using h.2⟩) (fun _ _ => rfl)
    repeat (first | refine Own.setLow (n := w.heap.size + 3) ?_ (fun b h => h.1) (by simp; try omega) _ | exact HO4.out.mono (fun b h => ⟨by have := HS.out; have := h.1; omega, h.2⟩) (fun _ _ => rfl))
  · repeat (first | refine Below.setCell ?_ (by simp; try omega) _ | exact HB4.out)
theorem take_snoc' {α : Type} (xs : List α) (k : Nat) (h : k < xs.length) : xs.take (k + 1) = xs.take k ++ [xs[k]] := List.take_succ_eq_append_getElem h
set_option maxRecDepth 10000 in
set_option maxHeartbeats 1000000 in
theorem ownTxnList (xs : List Txn) (A : Option Addr) (c : Nat) (w : World) (hm : xs.length ≤ 1048576) (hn : ∀ x ∈ xs, x.Ops.length ≤ 1048576) (hA : Row tTxn w (Old w) A xs) :
    Calls Tryz.prog 35 #[.slice A xs.length c] w fun e w' => ∃ v, e = .returned v ∧ Own (tTxnO 82) 57 w' (New w w') xs v ∧ Below w.heap.size w w' := by
  obtain ⟨i0, hi, hz0, hz1, hz2⟩ := info_parts infoTxn_
  have HA := hide hA
  have HN := hide hn
  clear hA hn
  go_enter Tryz.func35, Tryz.ntmps35
  go_wp2
  go_loopw [3, 4] (fun v i wr => ∃ k : Nat, k ≤ xs.length ∧ i = .int .i64 k ∧ Hid (Own (tTxnO 82) 57 wr (fun b => w.heap.size ≤ b ∧ Old wr b) (xs.take k) v) ∧ Below w.heap.size w wr) (fun _ i _ => xs.length - (intOf i).toNat)
  case atStart => exact ⟨0, Nat.zero_le _, rfl, Own.empty w (fun b => w.heap.size ≤ b) (Nat.le_refl _), (Below.refl _ _).alloc (Nat.le_refl _) _⟩
  case round =>
    obtain ⟨k, hk, rfl, hO, hb⟩ := hrel
    by_cases hlt : k < xs.length
    · obtain ⟨b, off, A2, c2, rfl, hbS, c0, c1, c3, hi1, hi2, hi3⟩ := at_Txn HA.out hb hlt
      have HC := hide (ownTxn xs[k] A2 c2 wr (HN.out _ (List.getElem_mem hlt)) hi3)
      have HS := hide (take_snoc' xs k hlt)
      have HB := hide hb
      have HL := hide (own_lt (B := wr.heap.size) hO.out (fun b h => h.2))
      clear hi1 hi2 hi3
      go_wp2_with (first | (go_at_call 74; refine HC.out.mono ?_; rintro e w' ⟨v2, rfl, hO2, hb2⟩; have HO2 := hide hO2; have HB2 := hide hb2; have HO1 := hide (hO.out.onlyBelow hb2); clear hO2 hb2 hO) | (at_builtin; refine wpList_put (tTxnO 82) rfl (.tmp 12) (.tmp 18) 30 rfl 57 i0 _ 40 Tryz.underlying30 hi hz0 hz1 hz2 rfl (by decide) (fun b => w.heap.size ≤ b) (New wr w') (xs.take k) xs[k] [.int .i64 xs[k].Session, v2, .bool xs[k].Done] _ rfl HO1.out _ rfl ⟨_, rfl, HO2.out⟩ (fun b h => ⟨Nat.le_trans HB.out.size h.1, h.2, fun e => by have := HL.out b e; have := h.1; omega⟩) (fun b hb => Nat.le_trans (Nat.le_trans HB.out.size HB2.out.size) hb) (by rw [List.length_take]; simp only [maxLen]; omega) (by rw [List.length_take]; omega) ?_; intro v3 w3 hO_ hK_; have HO3 := hide hO_; have HK3 := hide hK_; clear hO_ hK_))
      go_roundw
      case rel => exact ⟨k + 1, by omega, by go_num, by rw [HS.out]; exact HO3.out, below_only (HB.out.trans (HB2.out.mono HB.out.size)) HK3.out (Nat.le_trans HB.out.size HB2.out.size) (fun _ h => h)⟩
      case measure => simp [intOf]; omega
    · obtain rfl : k = xs.length := by omega
      have HS := hide (show xs.take xs.length = xs from List.take_length)
      go_wp2
      go_ret
      exact ⟨_, rfl, by have := hO.out; rw [HS.out] at this; exact this, hb⟩
end Go.Proofs.YtjiobgfaohldhaaGreat
namespace Go.Proofs.YtjiobgfaohldhaaGreat
open Go.RowKit

theorem infoIntS_ : (Tryz.prog.info? 23).map (fun i => (i.zero, i.size, i.bytes)) = some (some (.slice none 0 0), 1, 24) := by kernel_rfl
set_option maxRecDepth 10000 in
set_option maxHeartbeats 400000 in
theorem toIntSS (xs : List (List Int)) (A : Option Addr) (c : Nat) (w : World) (hl : xs.length ≤ 1048576) (hn : ∀ x ∈ xs, x.length ≤ 1048576) (hA : Row (tSlice tInt) w (Old w) A xs) :
    Calls Tryz.prog 28 #[.slice A xs.length c] w fun e w' => ∃ v, e = .returned v ∧ Own (tIntSO 3) 23 w' (New w w') xs v ∧ Below w.heap.size w w' := by
  obtain ⟨i0, hi, hz0, hz1, hz2⟩ := info_parts infoIntS_
  have hmk := fun W => run_make_rowN (P := Tryz.prog) 24 23 i0 _ Tryz.underlying24 hi hz0 .i64 .i64 xs.length xs.length (Nat.le_refl _) (by rw [hz2]; omega) (by omega) W
  rw [hz1] at hmk
  clear hz0 hz1 hz2 hi
  go_enter Tryz.func28, Tryz.ntmps28
  go_wp2
  clear hmk
  go_loopw [4] (fun i wr => ∃ k m : Nat, k ≤ xs.length ∧ i = .int .i64 k ∧ Below w.heap.size w wr ∧ w.heap.size < wr.heap.size ∧ m ≤ wr.heap.size ∧ Filling (tIntSO 3) 23 wr (In (w.heap.size + 1) m) w.heap.size xs.length k xs) (fun i _ => xs.length - (intOf i).toNat)
  case atStart => exact ⟨0, 0, Nat.zero_le _, rfl, (Below.refl _ _).alloc (Nat.le_refl _) _, by simp, Nat.zero_le _, Filling.made _ _ _ _ _ (In (w.heap.size + 1) 0) (by show _ = xs.length * 1; omega) (fun h => absurd h.2 (by omega))⟩
  case round =>
    obtain ⟨k, m, hk, rfl, hb, hsz, hm, hF⟩ := hrel
    by_cases hlt : k < xs.length
    · have hi0 := hn xs[k] (List.getElem_mem hlt)
      obtain ⟨b, off, A2, c2, rfl, hbS, c0_, hi1, hi2, hi3⟩ := at_IntS hA hb hlt
      clear hA hn
      go_wp2_with (go_at_call 27; refine (toIntS _ _ _ _ hi0 hi3).mono ?_; rintro e w' ⟨v, rfl, hO, hb'⟩; obtain ⟨A3, c3, rfl, _, _, _⟩ := hO.sl; have hF2 := hF.later (S' := In (w.heap.size + 1) w'.heap.size) hb' (fun b h => ⟨h.1, by have := h.2; have := hb'.size; omega⟩) (fun b h => by have := h.2; unfold Old; omega) (fun h => by have := h.1; omega); clear hF; obtain ⟨⟨u0, k0⟩, f0⟩ := hF2.there (i := k) (by show k < xs.length * 1; omega))
      go_roundw
      case rel => exact ⟨k + 1, w'.heap.size, by omega, by go_num, ((hb.trans (hb'.mono hb.size)).setCell (p := ⟨w.heap.size, k, none⟩) (Nat.le_refl _) (.slice A3 xs[k].length c3)), by simpa using (Nat.lt_of_lt_of_le hsz hb'.size), by simp, hF2.put1 rfl hlt hlt _ (⟨_, rfl, hO.mono (fun b h => ⟨by have := h.1; omega, h.2⟩) (fun _ _ => rfl)⟩)⟩
      case measure => simp [intOf]; omega
    · obtain rfl : k = xs.length := by omega
      clear hA hn
      go_wp2
      go_ret
      exact ⟨_, rfl, hF.own rfl (by simp only [maxLen]; omega) ⟨Nat.le_refl _, hsz⟩ (fun b h => ⟨by have := h.1; omega, by have := h.2; omega⟩), hb⟩
end Go.Proofs.YtjiobgfaohldhaaGreat
namespace Go.Proofs.YtjiobgfaohldhaaGreat
open Go.RowKit
set_option linter.unusedVariables false
set_option linter.unusedSimpArgs false

theorem Sl.row {α : Type} {T : Ty α} {w : World} {S : Nat → Prop} {xs : List α} {A : Option Addr} {n c : Nat} (h : Sl T w S xs (.slice A n c)) : Row T w S A xs := by
  obtain ⟨A', c', hv, _, _, hR⟩ := h
  injection hv with hA _ _
  subst hA
  exact hR
/-- A slice that reads as xs and may be written: its elements begin at the head of block g, which is known whole. -/
def Hold {α : Type} (T : Ty α) (e : TypeId) (w : World) (S : Nat → Prop) (xs : List α) (v : Value) (g : Nat) : Prop :=
  ∃ A c, v = .slice A xs.length c ∧ xs.length ≤ c ∧ c ≤ maxLen ∧ (0 < xs.length → A = some ⟨g, 0, none⟩ ∧ S g ∧ (∃ cur, Blk w g e cur ∧ xs.length * T.size ≤ cur.size) ∧ ∃ S' : Nat → Prop, (∀ b, S' b → S b ∧ b ≠ g) ∧ RowAt T w S' g 0 xs)
section
variable {α : Type} {T : Ty α} {e : TypeId} {w w' : World} {S S2 : Nat → Prop} {xs : List α} {v : Value} {g : Nat}
theorem Hold.mono (h : Hold T e w S xs v g) (h1 : ∀ b, S b → S2 b) (h2 : ∀ b, S b → w'.heap[b]? = w.heap[b]?) : Hold T e w' S2 xs v g := by
  obtain ⟨A, c, rfl, hc, hm, hr⟩ := h
  refine ⟨A, c, rfl, hc, hm, fun hp => ?_⟩
  obtain ⟨rfl, hg, ⟨cur, hB, hl⟩, S', h4, h5⟩ := hr hp
  exact ⟨rfl, h1 g hg, ⟨cur, hB.of (h2 g hg), hl⟩, S', fun b hb => ⟨h1 b (h4 b hb).1, (h4 b hb).2⟩, h5.mono (fun _ h => h) (fun b hb => h2 b (h4 b hb).1) (h2 g hg)⟩
theorem Hold.sl (h : Hold T e w S xs v g) : Sl T w S xs v := by
  obtain ⟨A, c, rfl, hc, hm, hr⟩ := h
  refine ⟨A, c, rfl, hc, hm, fun hp => ?_⟩
  obtain ⟨rfl, hg, ⟨cur, hB, hl⟩, S', h4, h5⟩ := hr hp
  exact ⟨g, 0, rfl, hg, h5.mono (fun b hb => (h4 b hb).1) (fun _ _ => rfl) rfl⟩
theorem Hold.old (h : Hold T e w' (New w w') xs v g) : Sl T w' (Old w') xs v := h.sl.mono (fun _ hb => hb.2) fun _ _ => rfl
theorem Own.hold (h : Own T e w S xs v) : ∃ g, Hold T e w S xs v g ∧ (v.ownBlock = none ∨ v.ownBlock = some g) := by
  rcases h with ⟨rfl, rfl⟩ | ⟨g, cap, cur, S', rfl, hg, hB, h1, h2, h3, h4, h5⟩
  · exact ⟨0, ⟨none, 0, rfl, by simp, by simp [maxLen], fun h => absurd h (by simp)⟩, .inl rfl⟩
  · exact ⟨g, ⟨_, cap, rfl, h1, h2, fun _ => ⟨rfl, hg, ⟨cur, hB, by rw [h3]; exact Nat.mul_le_mul_right _ h1⟩, S', h4, h5⟩⟩, .inr rfl⟩
theorem Hold.clip {A : Option Addr} {n c : Nat} (h : Hold T e w S xs (.slice A n c) g) : Hold T e w S xs (.slice A n n) g := by
  obtain ⟨A', c', hv, hc, hm, hr⟩ := h
  injection hv with h1 h2 h3
  subst h1; subst h2; subst h3
  exact ⟨_, _, rfl, Nat.le_refl _, Nat.le_trans hc hm, hr⟩
theorem Hold.nil (g : Nat) : Hold T e w S ([] : List α) (.slice none 0 0) g := ⟨none, 0, rfl, by simp, by simp [maxLen], fun h => absurd h (by simp)⟩
end
/-- A transaction whose operations may be written; their block is part of the datum. -/
def tTxnB (e : TypeId) : Ty (Txn × Nat) where
  size := 3
  rel w S p cs := ∃ v, cs = [.int .i64 p.1.Session, v, .bool p.1.Done] ∧ Hold tOp e w S p.1.Ops v p.2
  len h := by obtain ⟨A, rfl, _⟩ := h; rfl
  one h u hu := by
    obtain ⟨v, rfl, h2⟩ := h
    obtain ⟨A, c, rfl, _⟩ := h2.sl
    simp at hu
    rcases hu with rfl | rfl | rfl <;> rfl
  mono h h2 h3 := by obtain ⟨v, rfl, h4⟩ := h; exact ⟨v, rfl, h4.mono h2 h3⟩
/-- A list of numbers whose block is part of the datum. -/
def tIntSB (e : TypeId) : Ty (List Int × Nat) where
  size := 1
  rel w S p cs := ∃ v, cs = [v] ∧ Hold tInt e w S p.1 v p.2
  len h := by obtain ⟨A, rfl, _⟩ := h; rfl
  one h u hu := by
    obtain ⟨v, rfl, h2⟩ := h
    obtain ⟨A, c, rfl, _⟩ := h2.sl
    simp at hu
    subst hu; rfl
  mono h h2 h3 := by obtain ⟨v, rfl, h4⟩ := h; exact ⟨v, rfl, h4.mono h2 h3⟩
theorem RowAt.intSB {e : TypeId} {w : World} {S : Nat → Prop} {b off : Nat} {ps : List (List Int × Nat)} (h : RowAt (tIntSB e) w S b off ps) : RowAt (tSlice tInt) w S b off (ps.map Prod.fst) := fun k hk => by
  rw [List.length_map] at hk
  obtain ⟨cs, ⟨v, rfl, hr⟩, hc⟩ := h k hk
  exact ⟨_, ⟨v, rfl, by simpa using hr.sl⟩, hc⟩
theorem Sl.intSB {e : TypeId} {w : World} {S : Nat → Prop} {ps : List (List Int × Nat)} {v : Value} (h : Sl (tIntSB e) w S ps v) : Sl (tSlice tInt) w S (ps.map Prod.fst) v := by
  obtain ⟨A, c, rfl, h1, h2, h3⟩ := h
  refine ⟨A, c, by simp, by simpa using h1, h2, fun hp => ?_⟩
  obtain ⟨b, off, rfl, hb, hr⟩ := h3 (by simpa using hp)
  exact ⟨b, off, rfl, hb, hr.intSB⟩
section
variable {P : Program}
/-- append(s, x...), as one operation: s of the call's own, x any row. -/
theorem wp_cat {α : Type} (T : Ty α) {w : World} {o : Oper} {a : Act} {K' : Act → World → Prop} {Q : Exit → Act → World → Prop} (s x : Operand) (t : TypeId)
    (ho : o.op = .call { callee := .builtin .append, args := #[s, x], argTypes := #[t, t] })
    (e : TypeId) (i : TypeInfo) (z : Value) (bytes : Nat) (ht : P.underlying t = some (.slice e)) (hi : P.info? e = some i) (hz : i.zero = some z)
    (hsize : i.size = T.size) (hby : i.bytes = bytes) (hzs : z.cells.size = T.size) (hsz : 0 < T.size)
    (K Sy : Nat → Prop) (xs ys : List α) (v : Value) (hs : a.eval s = v) (hO : Own T e w (fun b => K b ∧ Old w b) xs v) (A : Option Addr) (m c : Nat) (hx : a.eval x = .slice A m c) (hm : m = ys.length)
    (hy : RowAny T w Sy A ys) (hSy : ∀ b, Sy b → K b ∧ Old w b ∧ v.ownBlock ≠ some b) (hK : ∀ b, w.heap.size ≤ b → K b)
    (h63 : xs.length + ys.length ≤ maxLen) (hbytes : (xs.length + ys.length) * bytes ≤ 140737488355328)
    (h : ∀ v' w', Own T e w' (fun b => K b ∧ Old w' b) (xs ++ ys) v' → Only K w w' → K' (a.put o.dst v') w') : o.wp P a w K' Q :=
  wp_app T s x t ho e i z bytes ht hi hz hsize hby hzs hsz (fun b => K b ∧ Old w b) Sy K xs ys v hs hO A m c hx hm hy h63 hbytes
    (fun b hb => hb.2) (fun b hb => ⟨(hSy b hb).2.1, (hSy b hb).2.2⟩) (fun b hb => hb.1) (fun b hb => (hSy b hb).1) (hK _ (Nat.le_refl _))
    (fun v' w' h1 h2 => h v' w' h1 (Only.of_grown h2 fun i hi => (hO.owned i hi).1))
theorem wp_put {α : Type} (T : Ty α) {w : World} {o : Oper} {a : Act} {K' : Act → World → Prop} {Q : Exit → Act → World → Prop} (s x : Operand) (t : TypeId)
    (ho : o.op = .call { callee := .builtin .append, args := #[s, x], argTypes := #[t, t] })
    (e : TypeId) (i : TypeInfo) (z : Value) (bytes : Nat) (ht : P.underlying t = some (.slice e)) (hi : P.info? e = some i) (hz : i.zero = some z)
    (hsize : i.size = T.size) (hby : i.bytes = bytes) (hzs : z.cells.size = T.size) (hsz : 0 < T.size)
    (K Sy : Nat → Prop) (xs : List α) (y : α) (cs : List Value) (v : Value) (hs : a.eval s = v) (hO : Own T e w (fun b => K b ∧ Old w b) xs v) (c : Nat) (hx : a.eval x = .slice (some ⟨w.heap.size, 0, none⟩) 1 c)
    (hy : T.rel w Sy y cs) (hSy : ∀ b, Sy b → K b ∧ Old w b ∧ v.ownBlock ≠ some b) (hK : ∀ b, w.heap.size ≤ b → K b)
    (h63 : xs.length + 1 ≤ maxLen) (hbytes : (xs.length + 1) * bytes ≤ 140737488355328)
    (h : ∀ v' w', Own T e w' (fun b => K b ∧ Old w' b) (xs ++ [y]) v' → Only K w w' → K' (a.put o.dst v') w') : o.wp P a (w.alloc (.cells cs.toArray e)) K' Q := by
  have hO1 := hO.mono (w' := w.alloc (.cells cs.toArray e)) (fun _ h => h) (fun b hb => Below.heap_alloc _ _ _ hb.2)
  refine wp_app T s x t ho e i z bytes ht hi hz hsize hby hzs hsz (fun b => K b ∧ Old w b) Sy K xs [y] v hs hO1 _ 1 c hx rfl (row_one e hy (fun b hb => (hSy b hb).2.1)) h63 hbytes
    (fun b hb => Nat.lt_of_lt_of_le hb.2 (by simp)) (fun b hb => ⟨Nat.lt_of_lt_of_le (hSy b hb).2.1 (by simp), (hSy b hb).2.2⟩) (fun b hb => hb.1) (fun b hb => (hSy b hb).1) (hK _ (by simp)) (fun v' w' h1 h2 => h v' w' h1 ?_)
  exact (Only.of_alloc w _).trans (Only.of_grown h2 fun i hi => (hO.owned i hi).1)
end
/-- A slice of one element, newly made. -/
theorem Own.one {α : Type} {T : Ty α} {e : TypeId} (w : World) {S K : Nat → Prop} {x : α} (cs : List Value) (hr : T.rel w S x cs) (hS : ∀ b, S b → K b ∧ Old w b) (hK : K w.heap.size) :
    Own T e (w.alloc (.cells cs.toArray e)) K [x] (.slice (some ⟨w.heap.size, 0, none⟩) 1 1) := by
  obtain ⟨b, off, hb, hrow⟩ := row_one e hr (fun b h => (hS b h).2) (by simp)
  have hbo : w.heap.size = b ∧ 0 = off := by simpa using hb
  obtain ⟨rfl, rfl⟩ := hbo
  exact .inr ⟨_, 1, _, S, rfl, hK, Blk.new _ _ _, by simp, by simp [maxLen], by rw [List.size_toArray, T.len hr]; omega, fun b h => ⟨(hS b h).1, fun e => by have := (hS b h).2; unfold Old at this; omega⟩, hrow⟩
/-- The blocks go up. -/
def Up {α : Type} (ps : List (α × Nat)) : Prop := ps.Pairwise fun a b => a.2 < b.2
theorem Up.snoc {α : Type} {ps : List (α × Nat)} {p : α × Nat} (h : Up ps) (hp : ∀ q ∈ ps, q.2 < p.2) : Up (ps ++ [p]) := by
  unfold Up
  rw [List.pairwise_append]
  exact ⟨h, List.pairwise_singleton _ _, fun a ha b hb => by simp at hb; subst hb; exact hp a ha⟩
theorem at_TxnG {xs : List Txn} {A : Option Addr} {w : World} {S : Nat → Prop} {k : Nat} (hR : Row tTxn w S A xs) (hk : k < xs.length) :
    ∃ b off A2 c2, A = some ⟨b, off, none⟩ ∧ S b ∧ w.cell? ⟨b, off + k * 3, none⟩ = some (.int .i64 xs[k].Session) ∧ w.cell? ⟨b, off + k * 3 + 1, none⟩ = some (.slice A2 xs[k].Ops.length c2) ∧ w.cell? ⟨b, off + k * 3 + 2, none⟩ = some (.bool xs[k].Done) ∧ xs[k].Ops.length ≤ c2 ∧ c2 ≤ maxLen ∧ Row tOp w S A2 xs[k].Ops := by
  obtain ⟨b, off, rfl, hbS, hc⟩ := hR (by omega)
  obtain ⟨cs, hr, hcs⟩ := hc k hk
  obtain ⟨v, rfl, A2, c2, rfl, h1, h2, h3⟩ := hr
  exact ⟨b, off, A2, c2, rfl, hbS, by simpa [tTxn] using hcs 0 _ rfl, by simpa [tTxn] using hcs 1 _ rfl, by simpa [tTxn] using hcs 2 _ rfl, h1, h2, h3⟩
section
variable {P : Program}
/-- append of one element of one cell onto a slice with room. -/
theorem wpList_room {w : World} {ops : Array Oper} {rest : List Oper} {o : Oper} {a : Act} {Q : Exit → Act → World → Prop} (hgd : Region.wanted o (yielded ops a.tmps) = true) (s x : Operand) (t : TypeId)
    (ho : o.op = .call { callee := .builtin .append, args := #[s, x], argTypes := #[t, t] })
    (e : TypeId) (i : TypeInfo) (ht : P.underlying t = some (.slice e)) (hi : P.info? e = some i) (hsize : i.size = 1)
    (g k cap : Nat) (cur : Array Value) (u : Value) (hB : Blk w g e cur) (hk : k < cap) (hs1 : k < cur.size) (h1 : u.oneCell' = true)
    (hs : a.eval s = .slice (some ⟨g, 0, none⟩) k cap) (c : Nat) (hx : a.eval x = .slice (some ⟨w.heap.size, 0, none⟩) 1 c)
    (h : wpList P ops Q rest (a.put o.dst (.slice (some ⟨g, 0, none⟩) (k + 1) cap)) ((w.alloc (.cells #[u] e)).setCell ⟨g, k, none⟩ u)) : wpList P ops Q (o :: rest) a (w.alloc (.cells #[u] e)) := by
  have hB2 := hB.alloc (.cells #[u] e)
  have hN := Blk.new w e #[u]
  have hrun := run_append_room_cells (P := P) (w.alloc (.cells #[u] e)) t o.type e i ht hi g 0 k cap ⟨w.heap.size, 0, none⟩ 1 c [u] (by rw [hsize]; rfl)
    (fun j v hj => by
      obtain ⟨hj0, rfl⟩ := List.getElem?_eq_some_iff.1 hj
      have : j = 0 := by simpa using hj0
      subst this
      rw [Go.WideShapes.add_plain]
      exact hN.cell 0)
    (fun v hv => by simp at hv; subst hv; exact h1) (by omega)
    (fun j hj => by
      have : j = 0 := by simpa using hj
      subst this
      rw [hsize, hB2.cell, Array.getElem?_eq_getElem (by omega)]; rfl)
    (fun j hj => hB2.frozen _)
  refine BigFrame.wpList_want hgd fun K hK => ?_
  unfold Oper.wp execOp
  simp only [ho, resolve, invoke, builtin, Sem.run_bind, Sem.run_pure, Result.andThen_ok, List.map_toArray, List.map_cons, List.map_nil, hs, hx, hrun]
  refine hK _ _ ?_
  have e1 : (w.alloc (.cells #[u] e)).setCells g (0 + k * i.size) [u] = (w.alloc (.cells #[u] e)).setCell ⟨g, k, none⟩ u := by
    rw [hsize]; simp [World.setCells]
  rw [e1]
  exact h
end
/-- The slice of the order: what stands in it, in block g, behind variable bo. -/
structure Ord (bo g cap : Nat) (pre : List Int) (W : World) : Prop where
  var : Blk W bo 23 #[.slice (some ⟨g, 0, none⟩) pre.length cap]
  row : ∃ cur, Blk W g 3 cur ∧ cur.size = cap ∧ ∀ j (hj : j < pre.length), cur[j]? = some (.int .i64 pre[j])
theorem Ord.glt {bo g cap : Nat} {pre : List Int} {W : World} (h : Ord bo g cap pre W) : g < W.heap.size := by obtain ⟨cur, hb, _⟩ := h.row; exact hb.lt
theorem Ord.keep {bo g cap : Nat} {pre : List Int} {W W' : World} (h : Ord bo g cap pre W) (h1 : W'.heap[bo]? = W.heap[bo]?) (h2 : W'.heap[g]? = W.heap[g]?) : Ord bo g cap pre W' := by
  obtain ⟨hv, cur, hb, hr⟩ := h
  exact ⟨hv.of h1, cur, hb.of h2, hr⟩
/-- The blocks of the order. -/
def Ko (bo g b : Nat) : Prop := b = bo ∨ b = g
/-- Numbers in memory of S that can be marked. -/
def HoldI (w : World) (S : Nat → Prop) (xs : List Int) (v : Value) : Prop := ∃ g, Hold tInt 3 w S xs v g
theorem HoldI.mono {w w' : World} {S S' : Nat → Prop} {xs : List Int} {v : Value} (h : HoldI w S xs v) (h1 : ∀ b, S b → S' b) (h2 : ∀ b, S b → w'.heap[b]? = w.heap[b]?) : HoldI w' S' xs v := by
  obtain ⟨g, h⟩ := h
  exact ⟨g, h.mono h1 h2⟩
theorem HoldI.sl {w : World} {S : Nat → Prop} {xs : List Int} {v : Value} (h : HoldI w S xs v) : Sl tInt w S xs v := by
  obtain ⟨g, h⟩ := h
  exact h.sl
/-- A call of a function of the program, as one operation. -/
theorem wp_fn {P : Program} {o : Oper} {a : Act} {w : World} {K : Act → World → Prop} {Q : Exit → Act → World → Prop} (f : FuncId) (args : Array Value) (hrun : (execOp a.eval o).run P w = .ok (.enter f args) w) {R : Ending → World → Prop}
    (hc : Calls P f args w R) (h : ∀ e w', R e w' → ∃ v, e = .returned v ∧ K (a.put o.dst v) w') : o.wp P a w K Q := by
  unfold Oper.wp
  rw [hrun, Oper.upon_enter]
  refine hc.mono fun e w'' hh => ?_
  obtain ⟨v, rfl, hk⟩ := h e w'' hh
  exact hk
theorem Own.emptyAt {α : Type} {T : Ty α} {e : TypeId} {w : World} {S : Nat → Prop} {p : Nat} (hB : Blk w p e #[]) (hp : S p) : Own T e w S ([] : List α) (.slice (some ⟨p, 0, none⟩) 0 0) :=
  .inr ⟨p, 0, #[], fun _ => False, rfl, hp, hB, by simp, by simp [maxLen], by simp, fun _ h => h.elim, fun k hk => absurd hk (by simp)⟩
theorem rowOne {e : TypeId} {w : World} {q : Nat} {x : Int} (hB : Blk w q e #[.int .i64 x]) : RowAny tInt w (fun _ => False) (some ⟨q, 0, none⟩) [x] := fun _ =>
  ⟨q, 0, rfl, fun k hk => by
    obtain rfl : k = 0 := by simpa using hk
    refine ⟨[.int .i64 x], rfl, fun j u hu => ?_⟩
    obtain ⟨hj, rfl⟩ := List.getElem?_eq_some_iff.1 hu
    obtain rfl : j = 0 := by simpa using hj
    simpa using hB.cell 0⟩
/-- The list with one more number, in new memory. -/
def XOne (e : TypeId) (w4 w : World) (ys : List Int) (v : Value) : Prop := Own tInt e w (fun b => w4.heap.size ≤ b ∧ Old w b) ys v ∧ Below w4.heap.size w4 w
theorem one_way {e : TypeId} {w4 W w8 w9 : World} {P : Nat → Prop} {pre : List Int} {x : Int} {v : Value} (hO : Own tInt e w9 (fun b => (w4.heap.size ≤ b ∧ P b) ∧ Old w9 b) ([] ++ pre ++ [x]) v) (hW : Below w4.heap.size w4 W)
    (h8 : Only (fun b => w4.heap.size ≤ b ∧ P b) W w8) (h9 : Only (fun b => w4.heap.size ≤ b ∧ P b) w8 w9) : XOne e w4 w9 (pre ++ [x]) v :=
  ⟨hO.mono (fun b h => ⟨h.1.1, h.2⟩) (fun _ _ => rfl), below_only hW (h8.trans h9) hW.size (fun b h => h.1)⟩
theorem find_take_some {α β : Type} (p : α → Option β) (l : List α) (k : Nat) (hk : k < l.length) (h0 : (l.take k).findSome? p = none) : (p l[k] = none → (l.take (k + 1)).findSome? p = none) ∧ (∀ y, p l[k] = some y → l.findSome? p = some y) := by
  constructor
  · intro hp
    rw [List.take_succ_eq_append_getElem hk, List.findSome?_append, h0]
    simp [hp]
  · intro y hp
    have h1 : (l.take k ++ l.drop k).findSome? p = some y := by
      rw [List.findSome?_append, h0, Option.none_or, List.drop_eq_getElem_cons hk, List.findSome?_cons, hp]
    rwa [List.take_append_drop] at h1
/-- What is found, in memory from block lo on. -/
def FindPost (r : Option (List Int)) (lo : Nat) (w : World) (e : Ending) (w' : World) : Prop :=
  ∃ v, e = .returned (.tuple #[v, .bool r.isSome]) ∧ Sl tInt w' (In lo w'.heap.size) (r.getD []) v ∧ Below w.heap.size w w'
theorem Sl.zero_ {w : World} {S : Nat → Prop} {A : Option Addr} : Sl tInt w S [] (.slice A 0 0) := ⟨A, 0, rfl, Nat.le_refl _, by simp [maxLen], Row.nil⟩
end Go.Proofs.YtjiobgfaohldhaaGreat
namespace Go.Proofs.YtjiobgfaohldhaaGreat
open Go.RowKit
set_option linter.unusedVariables false
set_option linter.unusedSimpArgs false

set_option maxRecDepth 10000 in
set_option maxHeartbeats 1000000 in
theorem ownRowsIntA (xs : List (List Int)) (A : Option Addr) (c : Nat) (w : World) (hm : xs.length ≤ 1048576) (hn : ∀ x ∈ xs, x.length ≤ 1048576) (hA : Row (tSlice tInt) w (Old w) A xs) :
    Calls Tryz.prog 52 #[.slice A xs.length c] w fun e w' => ∃ v, e = .returned v ∧ Own (tIntSO 3) 23 w' (New w w') xs v ∧ Below w.heap.size w w' := by
  obtain ⟨i0, hi, hz0, hz1, hz2⟩ := info_parts infoInt_
  obtain ⟨i1, hi1, hz01, hz11, hz21⟩ := info_parts infoIntS_
  have HA := hide hA
  have HN := hide hn
  clear hA hn
  go_enter Tryz.func52, Tryz.ntmps52
  go_wp2
  go_loopw [3, 4] (fun v i wr => ∃ k : Nat, k ≤ xs.length ∧ i = .int .i64 k ∧ Hid (Own (tIntSO 3) 23 wr (fun b => w.heap.size ≤ b ∧ Old wr b) (xs.take k) v) ∧ Below w.heap.size w wr) (fun _ i _ => xs.length - (intOf i).toNat)
  case atStart => exact ⟨0, Nat.zero_le _, rfl, Own.empty w (fun b => w.heap.size ≤ b) (Nat.le_refl _), (Below.refl _ _).alloc (Nat.le_refl _) _⟩
  case round =>
    obtain ⟨k, hk, rfl, hO, hb⟩ := hrel
    by_cases hlt : k < xs.length
    · obtain ⟨b, off, A2, c2, rfl, hbS, c0, hi1', hi2, hi3⟩ := at_IntS HA.out hb hlt
      have HS := hide (take_snoc' xs k hlt)
      have HB := hide hb
      have HL := hide (own_lt (B := wr.heap.size) hO.out (fun b h => h.2))
      have hnl := HN.out _ (List.getElem_mem hlt)
      have HO := hide hO.out
      have HOe := hide (Own.empty (T := tInt) (e := 3) wr (fun b => wr.heap.size ≤ b) (Nat.le_refl _))
      have HRy := hide ((hi3.old ((Below.refl _ wr).alloc (Nat.le_refl _) (.cells #[] 3))).anyInt)
      have c00 := (Below.cell (p := ⟨b, off + k, none⟩) ((Below.refl _ wr).alloc (Nat.le_refl _) (.cells #[] 3)) (Nat.lt_of_lt_of_le hbS hb.size)).trans c0
      have hbz : b < wr.heap.size := Nat.lt_of_lt_of_le hbS hb.size
      generalize xs[k] = x at c0 c00 hnl HS HRy
      clear hi1' hi2 hi3 hO hb
      have hlk : (xs.take k).length ≤ 1048576 := by rw [List.length_take]; omega
      generalize xs.take k = pre at HO HS hlk HL
      go_wp2_with (first
        | (at_builtin; refine wpList_cat tInt rfl (.tmp 13) (.tmp 17) 23 rfl 3 i0 _ 8 Tryz.underlying23 hi hz0 hz1 hz2 rfl (by decide) (fun b => wr.heap.size ≤ b) (fun _ => False) [] x _ rfl HOe.out _ _ _ rfl rfl HRy.out (fun _ h => h.elim) (fun b hb => Nat.le_trans (by simp) hb) (by skip; simp only [maxLen, List.length_nil]; omega) (by skip; simp only [List.length_nil]; omega) ?_; intro v3 w4 hO_ hK_; obtain ⟨A8, c8, rfl, _, _, _⟩ := hO_.sl; have HO4 := hide hO_; have HB4 := hide (show Below wr.heap.size wr w4 from ((Only.of_alloc (K := fun b => wr.heap.size ≤ b) wr (.cells #[] 3)).trans hK_).below); have HO5 := hide (HO.out.onlyBelow HB4.out); clear hO_ hK_)
        | (at_builtin; refine wpList_put (tIntSO 3) rfl (.tmp 12) (.tmp 19) 24 rfl 23 i1 _ 24 Tryz.underlying24 hi1 hz01 hz11 hz21 rfl (by decide) (fun b => w.heap.size ≤ b) (fun b => wr.heap.size ≤ b ∧ Old w4 b) pre x [.slice A8 x.length c8] _ rfl HO5.out 1 rfl ⟨_, rfl, HO4.out⟩ (fun b h => ⟨Nat.le_trans HB.out.size h.1, h.2, fun e => by have := HL.out b e; have := h.1; omega⟩) (fun b hb => Nat.le_trans (Nat.le_trans HB.out.size HB4.out.size) hb) (by simp only [maxLen]; omega) (by omega) ?_; intro v7 w7 hO_ hK_; have HO7 := hide hO_; have HK7 := hide hK_; clear hO_ hK_))
      go_roundw
      case rel => exact ⟨k + 1, by omega, by go_num, by rw [HS.out]; exact HO7.out, below_only (HB.out.trans (HB4.out.mono HB.out.size)) HK7.out (Nat.le_trans HB.out.size HB4.out.size) (fun _ h => h)⟩
      case measure => simp [intOf]; omega
    · obtain rfl : k = xs.length := by omega
      have HS := hide (show xs.take xs.length = xs from List.take_length)
      go_wp2
      go_ret
      exact ⟨_, rfl, by have := hO.out; rw [HS.out] at this; exact this, hb⟩
theorem RowAny.stay {α : Type} {T : Ty α} {w w' : World} {S S' : Nat → Prop} {p : Nat} {xs : List α} (h : RowAny T w S (some ⟨p, 0, none⟩) xs) (h1 : ∀ b, S b → S' b) (h2 : ∀ b, S b → w'.heap[b]? = w.heap[b]?) (hp : w'.heap[p]? = w.heap[p]?) : RowAny T w' S' (some ⟨p, 0, none⟩) xs := fun hx => by
  obtain ⟨b, off, he, hr⟩ := h hx
  have hbo : p = b ∧ 0 = off := by simpa using he
  obtain ⟨rfl, rfl⟩ := hbo
  exact ⟨p, 0, rfl, hr.mono h1 h2 hp⟩
section
variable {P : Program}
/-- append onto an empty slice without room: only new memory. -/
theorem wp_app0 {α : Type} (T : Ty α) {w : World} {o : Oper} {a : Act} {K : Act → World → Prop} {Q : Exit → Act → World → Prop} (s x : Operand) (t : TypeId)
    (ho : o.op = .call { callee := .builtin .append, args := #[s, x], argTypes := #[t, t] })
    (e : TypeId) (i : TypeInfo) (z : Value) (bytes : Nat) (ht : P.underlying t = some (.slice e)) (hi : P.info? e = some i) (hz : i.zero = some z)
    (hsize : i.size = T.size) (hby : i.bytes = bytes) (hzs : z.cells.size = T.size) (hsz : 0 < T.size)
    (S Sy S2 : Nat → Prop) (ys : List α) (p : Nat) (hs : a.eval s = .slice (some ⟨p, 0, none⟩) 0 0) (hO : Own T e w S [] (.slice (some ⟨p, 0, none⟩) 0 0)) (A : Option Addr) (m c : Nat) (hx : a.eval x = .slice A m c) (hm : m = ys.length) (hy : RowAny T w Sy A ys)
    (h63 : ys.length ≤ maxLen) (hbytes : ys.length * bytes ≤ 140737488355328)
    (hSo : ∀ b, S b → Old w b) (hSy : ∀ b, Sy b → Old w b ∧ p ≠ b) (h1 : ∀ b, S b → S2 b) (h2 : ∀ b, Sy b → S2 b) (h3 : S2 w.heap.size)
    (h : ∀ v' w', Own T e w' (fun b => S2 b ∧ Old w' b) ys v' → Below w.heap.size w w' → K (a.put o.dst v') w') : o.wp P a w K Q := by
  subst hm
  obtain ⟨v', w', hrun, h4, h5⟩ := run_app (P := P) T w t o.type e i z bytes ht hi hz hsize hby hzs hsz S Sy S2 [] ys _ hO A c hy (by simpa using h63) (by simpa using hbytes) hSo (fun b hb => ⟨(hSy b hb).1, fun e => (hSy b hb).2 (by simpa [Value.ownBlock] using e)⟩) h1 h2 h3
  have hB : Below w.heap.size w w' := by
    by_cases hp : 0 < ys.length
    · obtain ⟨b, off, rfl, hrow⟩ := hy hp
      obtain ⟨news, hnl, hnc, hn1, hnrel⟩ := cells_of_row hrow
      obtain ⟨v2, w2, hr2, _, hg⟩ := run_append_arg_grows (P := P) (w := w) t o.type e i z T.size bytes ht hi hz hsize hby hzs hsz ⟨p, 0, none⟩ 0 0 [] (by simp) (fun j u hu => by simp at hu) ⟨b, off, none⟩ ys.length c news hnl (fun j u hu => by rw [Go.WideShapes.add_plain]; exact hnc j u hu) (by omega) (by simpa using h63) (by simpa using hbytes)
      have hr3 := hrun.symm.trans hr2
      injection hr3 with e1 e2
      subst e2
      exact (Below.refl _ _).grown hg (Nat.le_refl _) (fun k hk => by cases hk)
    · have hnil : ys = [] := List.eq_nil_of_length_eq_zero (by omega)
      subst hnil
      have hr2 : (Builtin.append_ #[t, t] o.type #[.slice (some ⟨p, 0, none⟩) 0 0, .slice A 0 c]).run P w = .ok (.slice (some ⟨p, 0, none⟩) 0 0) w := by
        cases A <;> simp [Builtin.append_, run_underlying ht, sizeOf, typeInfo, hi, Builtin.lenOf, Builtin.firstCells, storeCells, loadCells, loadCellsFrom]
      have hr3 := hrun.symm.trans hr2
      injection hr3 with e1 e2
      subst e2
      exact Below.refl _ _
  unfold Oper.wp execOp
  simp only [ho, resolve, invoke, builtin, Sem.run_bind, Sem.run_pure, Result.andThen_ok, List.map_toArray, List.map_cons, List.map_nil, hs, hx, hrun]
  exact h v' w' (by simpa using h4) hB
end
/-- The facts: number 5 is the copy, 6 the empty list, 11 the list that was appended to it, 12 the block with it, 13 the copy with it at its end, 14 the block with that. -/
def FAll (lo : Nat) (bg : List (List Int)) (m9 : List Int) (V : Nat → Value) (L : Nat → Bool) (i : Nat) (v : Value) (W : World) : Prop :=
  if i = 5 then L 13 = false → Own (tSlice tInt) 23 W (fun b => lo ≤ b ∧ Old W b) bg v
  else if i = 6 then L 11 = false → ∃ p, v = .slice (some ⟨p, 0, none⟩) 0 0 ∧ Own tInt 3 W (fun b => lo ≤ b ∧ Old W b) [] v
  else if i = 11 then L 12 = false → Own tInt 3 W (fun b => lo ≤ b ∧ Old W b) m9 v
  else if i = 12 then L 13 = false → ∃ p Sy, v = .slice (some ⟨p, 0, none⟩) 1 1 ∧ RowAny (tSlice tInt) W Sy (some ⟨p, 0, none⟩) [m9] ∧ Old W p ∧ ∀ b, Sy b → lo ≤ b ∧ ∃ cur, Blk W b 3 cur
  else if i = 13 then Own (tSlice tInt) 23 W (fun b => lo ≤ b ∧ Old W b) (bg ++ [m9]) v
  else if i = 14 then ∃ p, v = .slice (some ⟨p, 0, none⟩) 1 1 ∧ RowAny (tSlice (tSlice tInt)) W (fun b => lo ≤ b ∧ Old W b) (some ⟨p, 0, none⟩) [bg ++ [m9]] ∧ Old W p
  else v = V i
section
variable {lo : Nat} {bg : List (List Int)} {m9 : List Int} {V : Nat → Value} {L : Nat → Bool} {v : Value} {W : World}
theorem FAll.get {i : Nat} (h : FAll lo bg m9 V L i v W) (hi : i ≠ 5 ∧ i ≠ 6 ∧ i ≠ 11 ∧ i ≠ 12 ∧ i ≠ 13 ∧ i ≠ 14) : v = V i := by
  obtain ⟨h1, h2, h3, h4, h5, h6⟩ := hi
  unfold FAll at h
  rwa [if_neg h1, if_neg h2, if_neg h3, if_neg h4, if_neg h5, if_neg h6] at h
theorem FAll.val {i : Nat} (hi : i ≠ 5 ∧ i ≠ 6 ∧ i ≠ 11 ∧ i ≠ 12 ∧ i ≠ 13 ∧ i ≠ 14) (h : v = V i) : FAll lo bg m9 V L i v W := by
  obtain ⟨h1, h2, h3, h4, h5, h6⟩ := hi
  unfold FAll
  rwa [if_neg h1, if_neg h2, if_neg h3, if_neg h4, if_neg h5, if_neg h6]
theorem FAll.iff5 : FAll lo bg m9 V L 5 v W ↔ (L 13 = false → Own (tSlice tInt) 23 W (fun b => lo ≤ b ∧ Old W b) bg v) := by unfold FAll; simp
theorem FAll.iff6 : FAll lo bg m9 V L 6 v W ↔ (L 11 = false → ∃ p, v = .slice (some ⟨p, 0, none⟩) 0 0 ∧ Own tInt 3 W (fun b => lo ≤ b ∧ Old W b) [] v) := by unfold FAll; simp
theorem FAll.iff11 : FAll lo bg m9 V L 11 v W ↔ (L 12 = false → Own tInt 3 W (fun b => lo ≤ b ∧ Old W b) m9 v) := by unfold FAll; simp
theorem FAll.iff12 : FAll lo bg m9 V L 12 v W ↔ (L 13 = false → ∃ p Sy, v = .slice (some ⟨p, 0, none⟩) 1 1 ∧ RowAny (tSlice tInt) W Sy (some ⟨p, 0, none⟩) [m9] ∧ Old W p ∧ ∀ b, Sy b → lo ≤ b ∧ ∃ cur, Blk W b 3 cur) := by unfold FAll; simp
theorem FAll.iff13 : FAll lo bg m9 V L 13 v W ↔ Own (tSlice tInt) 23 W (fun b => lo ≤ b ∧ Old W b) (bg ++ [m9]) v := by unfold FAll; simp
theorem FAll.iff14 : FAll lo bg m9 V L 14 v W ↔ ∃ p, v = .slice (some ⟨p, 0, none⟩) 1 1 ∧ RowAny (tSlice (tSlice tInt)) W (fun b => lo ≤ b ∧ Old W b) (some ⟨p, 0, none⟩) [bg ++ [m9]] ∧ Old W p := by unfold FAll; simp
theorem own_stay {α : Type} {T : Ty α} {e : TypeId} {wa wb : World} {xs : List α} {u : Value} (h : Own T e wa (fun b => lo ≤ b ∧ Old wa b) xs u) (hb : Below wa.heap.size wa wb) : Own T e wb (fun b => lo ≤ b ∧ Old wb b) xs u :=
  h.mono (fun b h => ⟨h.1, Nat.lt_of_lt_of_le h.2 hb.size⟩) fun b h => hb.block b h.2
theorem own_int_blk {w : World} {xs : List Int} {A : Option Addr} {n c : Nat} (h : Own tInt 3 w (fun b => lo ≤ b ∧ Old w b) xs (.slice A n c)) : ∃ Sy : Nat → Prop, Sl tInt w Sy xs (.slice A n c) ∧ ∀ b, Sy b → lo ≤ b ∧ ∃ cur, Blk w b 3 cur := by
  rcases h with ⟨h1, rfl⟩ | ⟨g, cap, cur, S', hv, hg, hB, h1, h2, h3, h4, h5⟩
  · injection h1 with e1 e2 e3
    subst e1 e2 e3
    exact ⟨fun _ => False, ⟨none, 0, rfl, Nat.le_refl _, by simp [maxLen], Row.nil⟩, fun _ h => h.elim⟩
  · refine ⟨fun b => b = g, ⟨some ⟨g, 0, none⟩, cap, hv, h1, h2, fun _ => ⟨g, 0, rfl, rfl, fun k hk => ?_⟩⟩, fun b e => ?_⟩
    · obtain ⟨cs, hr, hc⟩ := h5 k hk
      exact ⟨cs, hr, hc⟩
    · subst e; exact ⟨hg.1, cur, hB⟩
theorem own_intS_blk {α : Type} {T : Ty α} {e : TypeId} {w : World} {S : Nat → Prop} {xs : List α} {v : Value} (h : Own T e w S xs v) : ∀ b, v.ownBlock = some b → ∃ cur, Blk w b e cur := fun b hb => by
  rcases h with ⟨rfl, rfl⟩ | ⟨g, cap, cur, S', rfl, hg, hB, h1, h2, h3, h4, h5⟩
  · cases hb
  · have : g = b := by simpa [Value.ownBlock] using hb
    subst this; exact ⟨cur, hB⟩
theorem FAll.ev {i k : Nat} {wa wb : World} (hi : i < 15) (h : FAll lo bg m9 V L i v wa) (hk : L k = false) (h13 : k = 13 → L 11 = true ∧ L 12 = true) (hik : i = 13 ∨ i = 14 → k ≠ 13) (hb : k ≠ 13 → Below wa.heap.size wa wb) : FAll lo bg m9 V (fun j => if j = k then true else L j) i v wb := by
  by_cases e5 : i = 5
  · subst e5
    rw [FAll.iff5] at h ⊢
    intro hl
    have hk13 : k ≠ 13 := fun e => by subst e; simp at hl
    rw [if_neg (Ne.symm hk13)] at hl
    exact own_stay (h hl) (hb hk13)
  by_cases e6 : i = 6
  · subst e6
    rw [FAll.iff6] at h ⊢
    intro hl
    have hk11 : k ≠ 11 := fun e => by subst e; simp at hl
    rw [if_neg (Ne.symm hk11)] at hl
    obtain ⟨p, h1, h2⟩ := h hl
    exact ⟨p, h1, own_stay h2 (hb fun e => by rw [(h13 e).1] at hl; cases hl)⟩
  by_cases e11 : i = 11
  · subst e11
    rw [FAll.iff11] at h ⊢
    intro hl
    have hk12 : k ≠ 12 := fun e => by subst e; simp at hl
    rw [if_neg (Ne.symm hk12)] at hl
    exact own_stay (h hl) (hb fun e => by rw [(h13 e).2] at hl; cases hl)
  by_cases e12 : i = 12
  · subst e12
    rw [FAll.iff12] at h ⊢
    intro hl
    have hk13 : k ≠ 13 := fun e => by subst e; simp at hl
    rw [if_neg (Ne.symm hk13)] at hl
    obtain ⟨p, Sy, h1, h2, h3, h4⟩ := h hl
    have hB := hb hk13
    refine ⟨p, Sy, h1, h2.stay (fun _ h => h) (fun b hS => ?_) (hB.block p h3), Nat.lt_of_lt_of_le h3 hB.size, fun b hS => ?_⟩
    · obtain ⟨_, cur, hc⟩ := h4 b hS
      exact hB.block b hc.lt
    · obtain ⟨h5, cur, hc⟩ := h4 b hS
      exact ⟨h5, cur, hc.below hB hc.lt⟩
  by_cases e13 : i = 13
  · subst e13
    rw [FAll.iff13] at h ⊢
    exact own_stay h (hb (hik (.inl rfl)))
  by_cases e14 : i = 14
  · subst e14
    rw [FAll.iff14] at h ⊢
    obtain ⟨p, h1, h2, h3⟩ := h
    have hB := hb (hik (.inr rfl))
    exact ⟨p, h1, h2.stay (fun b hS => ⟨hS.1, Nat.lt_of_lt_of_le hS.2 hB.size⟩) (fun b hS => hB.block b hS.2) (hB.block p h3), Nat.lt_of_lt_of_le h3 hB.size⟩
  exact FAll.val ⟨e5, e6, e11, e12, e13, e14⟩ (h.get ⟨e5, e6, e11, e12, e13, e14⟩)
end
end Go.Proofs.YtjiobgfaohldhaaGreat
