/- The program's back: a shortest way back to a number. -/
import Derived.Test.YtnlicjgegclilaaDoorReach
import Derived.Test.YtnlicjgegclilaaDoorRepeat
import Derived.Test.YtnlicjgegclilaaDoorQue
import Derived.Test.YtnlicjgegclilaaDoorCycEq
namespace Go.Proofs.YtnlicjgegclilaaDoor
open Go.RowKit
set_option linter.unusedVariables false
set_option linter.unusedSimpArgs false

def cellsI (F : List Int) : Array Value := (F.map fun n => Value.int .i64 n).toArray
theorem cellsI_get {F : List Int} {k : Nat} (h : k < F.length) : (cellsI F)[k]? = some (.int .i64 (F.getD k 0)) := by
  unfold cellsI
  simp [List.getD_eq_getElem?_getD, h]
theorem cellsI_set (F : List Int) (k : Nat) (v : Int) : (cellsI F).setIfInBounds k (.int .i64 v) = cellsI (F.set k v) := by
  unfold cellsI
  simp [List.map_set]
theorem cellsI_six : (rowN 6).toArray = cellsI (List.replicate 6 (-1)) := by kernel_rfl
/-- What stands while the search goes on: the matrix, the lengths, those that wait. -/
structure Bk (M : Nat → Nat) (w wr : World) (gF : Nat) (F q : List Int) (v : Value) : Prop where
  m : Blk wr w.heap.size 44 (row6 M)
  f : Blk wr gF 3 (cellsI F)
  q : Que 3 wr (fun b => gF < b ∧ Old wr b) q v
  b : Below w.heap.size w wr
  lt : w.heap.size < gF
section
variable {M : Nat → Nat} {w wr w' : World} {gF : Nat} {F q : List Int} {v : Value}
theorem Bk.below (h : Bk M w wr gF F q v) (hb : Below wr.heap.size wr w') : Bk M w w' gF F q v :=
  ⟨h.m.below hb h.m.lt, h.f.below hb h.f.lt, h.q.mono (fun b hb' => ⟨hb'.1, Nat.lt_of_lt_of_le hb'.2 hb.size⟩) (fun b hb' => hb.block b hb'.2), h.b.trans (hb.mono h.b.size), h.lt⟩
theorem Bk.set (h : Bk M w wr gF F q v) (i : Nat) (x : Int) : Bk M w (wr.setCell ⟨gF, i, none⟩ (.int .i64 x)) gF (F.set i x) q v :=
  ⟨h.m.far (by have := h.lt; simp; omega) _, by rw [← cellsI_set]; exact h.f.set_ i _, h.q.mono (fun b hb => ⟨hb.1, by have := hb.2; simpa [Old] using this⟩) (fun b hb => Below.heap_setCell _ _ _ _ (by have := hb.1; simp; omega)), Below.setCell h.b (Nat.le_of_lt h.lt) _, h.lt⟩
theorem Bk.put {q' : List Int} {v' : Value} (h : Bk M w wr gF F q v) (hq : Que 3 w' (fun b => gF < b ∧ Old w' b) q' v') (ho : Only (fun b => gF < b) wr w') : Bk M w w' gF F q' v' :=
  ⟨h.m.of (ho.block _ h.m.lt (by have := h.lt; omega)), h.f.of (ho.block _ h.f.lt (by omega)), hq, below_only h.b ho h.b.size (fun b hb => by have := h.lt; omega), h.lt⟩
theorem Bk.with {q' : List Int} {v' : Value} (h : Bk M w wr gF F q v) (hq : Que 3 wr (fun b => gF < b ∧ Old wr b) q' v') : Bk M w wr gF F q' v' := ⟨h.m, h.f, hq, h.b, h.lt⟩
theorem Bk.cell (h : Bk M w wr gF F q v) {i : Nat} (hi : i < F.length) : wr.cell? ⟨gF, i, none⟩ = some (.int .i64 (F.getD i 0)) ∧ wr.frozen? ⟨gF, i, none⟩ = false :=
  ⟨(h.f.cell i).trans (cellsI_get hi), h.f.frozen i⟩
end
def lenOf : Value → Nat
  | .slice _ n _ => n
  | _ => 0
theorem Que.lenOf {e : TypeId} {w : World} {S : Nat → Prop} {q : List Int} {v : Value} (h : Que e w S q v) : lenOf v = q.length := by
  obtain ⟨g, off, cap, cur, rfl, _⟩ := h; rfl
/-- How many numbers of a block are negative. -/
def unfW (w : World) (g : Nat) : Nat := match w.heap[g]? with
  | some (.cells cur _ _) => cur.toList.countP fun v => match v with
    | .int _ n => decide (n < 0)
    | _ => false
  | _ => 0
theorem Bk.unf {M : Nat → Nat} {w wr : World} {gF : Nat} {F q : List Int} {v : Value} (h : Bk M w wr gF F q v) : unfW wr gF = unf F := by
  have h1 : wr.heap[gF]? = some (.cells (cellsI F) 3 (0, 0)) := h.f
  unfold unfW
  rw [h1]
  unfold cellsI Go.Proofs.YtnlicjgegclilaaDoor.unf
  simp only [List.toList_toArray, List.countP_map]
  rfl
theorem clip_Int9 (n : Nat) (A : Option Addr) (c : Nat) (w : World) (hl : n ≤ c) (hc : c ≤ maxLen) :
    Calls Tryd.prog 36 #[.slice A n c] w fun e w' => e = .returned (.slice A n n) ∧ w = w' := by
  unfold maxLen at hc
  have h1 : (0 : Int) ≤ (n : Int) := by omega
  have h2 : (n : Int) ≤ (c : Int) := by omega
  go_enter Tryd.func36, Tryd.ntmps36
  go_wp2
  go_ret
  exact ⟨rfl, rfl⟩
theorem b0_meas (E : Nat → Nat → Bool) (s : Nat) : ∀ i, i ≤ 6 → (b0 E s i).2.length + unf (b0 E s i).1 = 6
  | 0, _ => by simp [b0, Go.Proofs.YtnlicjgegclilaaDoor.unf]
  | i + 1, hi => by
    have ih := b0_meas E s i (by omega)
    have hb := bfs0 (E := E) (s := s) i (by omega)
    rw [b0_succ]
    unfold b0Step
    split
    · have hv := hb.val i (by omega)
      rw [if_neg (fun h => absurd h.1 (Nat.lt_irrefl i))] at hv
      have := unf_set (F := (b0 E s i).1) (i := i) (v := 1) (by rw [hb.len]; omega) (by omega) (by omega)
      simp only [List.length_append, List.length_singleton]
      omega
    · exact ih
/-- What stands while the way is gathered. -/
structure Wy (M : Nat → Nat) (w wr : World) (gF : Nat) (F pre : List Int) (v : Value) : Prop where
  m : Blk wr w.heap.size 44 (row6 M)
  f : Blk wr gF 3 (cellsI F)
  o : Own tInt 3 wr (fun b => gF < b ∧ Old wr b) pre v
  b : Below w.heap.size w wr
  lt : w.heap.size < gF
section
variable {M : Nat → Nat} {w wr w' : World} {gF : Nat} {F pre : List Int} {v : Value}
theorem Wy.below (h : Wy M w wr gF F pre v) (hb : Below wr.heap.size wr w') : Wy M w w' gF F pre v :=
  ⟨h.m.below hb h.m.lt, h.f.below hb h.f.lt, h.o.mono (fun b hb' => ⟨hb'.1, Nat.lt_of_lt_of_le hb'.2 hb.size⟩) (fun b hb' => hb.block b hb'.2), h.b.trans (hb.mono h.b.size), h.lt⟩
theorem Wy.put {q' : List Int} {v' : Value} (h : Wy M w wr gF F pre v) (hq : Own tInt 3 w' (fun b => gF < b ∧ Old w' b) q' v') (ho : Only (fun b => gF < b) wr w') : Wy M w w' gF F q' v' :=
  ⟨h.m.of (ho.block _ h.m.lt (by have := h.lt; omega)), h.f.of (ho.block _ h.f.lt (by omega)), hq, below_only h.b ho h.b.size (fun b hb => by have := h.lt; omega), h.lt⟩
theorem Wy.cell (h : Wy M w wr gF F pre v) {i : Nat} (hi : i < F.length) : wr.cell? ⟨gF, i, none⟩ = some (.int .i64 (F.getD i 0)) ∧ wr.frozen? ⟨gF, i, none⟩ = false :=
  ⟨(h.f.cell i).trans (cellsI_get hi), h.f.frozen i⟩
theorem Bk.way {q : List Int} (h : Bk M w wr gF F q v) (s : Nat) : Wy M w (wr.alloc (.cells #[.int .i64 s] 3)) gF F [(s : Int)] (.slice (some ⟨wr.heap.size, 0, none⟩) 1 1) :=
  ⟨h.m.alloc _, h.f.alloc _, (Own.one (T := tInt) wr (S := fun _ => False) (K := fun b => gF < b ∧ Old (wr.alloc (.cells #[.int .i64 s] 3)) b) [.int .i64 s] rfl (fun _ h => h.elim) ⟨h.f.lt, by simp [Old]⟩), h.b.alloc h.b.size _, h.lt⟩
end
theorem b0_len (E : Nat → Nat → Bool) (s : Nat) : ∀ i, i ≤ 6 → (b0 E s i).1.length = 6 ∧ (b0 E s i).2.length ≤ i
  | 0, _ => by simp [b0]
  | i + 1, hi => by
    obtain ⟨h1, h2⟩ := b0_len E s i (by omega)
    rw [b0_succ]
    unfold b0Step
    split
    · simp [h1]; omega
    · exact ⟨h1, by omega⟩
theorem far_small {E : Nat → Nat → Bool} {s : Nat} (hE : ∀ i j, E i j = true → i < 6 ∧ j < 6) (hs : s < 6) {n l : Nat} (h : Sh1 E s n l) : l ≤ 6 := by
  obtain ⟨c, rfl⟩ : ∃ c, l = c + 1 := ⟨l - 1, by have := h.1; omega⟩
  obtain ⟨m, _, hm⟩ := h.next
  have := hm.lt hE hs
  omega
theorem stepW_hit {E : Nat → Nat → Bool} {far : List Int} {l : Int} {a n : Nat} (hn : n < 6) (h1 : (E a n && far.getD n 0 == l) = true) (h2 : ∀ j, j < n → (E a j && far.getD j 0 == l) = false) : stepW E far l a = n := by
  unfold stepW
  rw [find_range hn h1 h2]; rfl
theorem stepW_miss {E : Nat → Nat → Bool} {far : List Int} {l : Int} {a : Nat} (h2 : ∀ j, j < 6 → (E a j && far.getD j 0 == l) = false) : stepW E far l a = a := by
  unfold stepW
  rw [List.find?_eq_none.2 (fun x hx => by rw [h2 x (List.mem_range.1 hx)]; decide)]; rfl
theorem stepW_lt {E : Nat → Nat → Bool} {far : List Int} {l : Int} {a : Nat} (ha : a < 6) : stepW E far l a < 6 := by
  unfold stepW
  cases h : (List.range 6).find? (fun j => E a j && far.getD j 0 == l) with
  | none => exact ha
  | some j => exact List.mem_range.1 (List.mem_of_find?_eq_some h)
set_option maxRecDepth 10000 in
set_option maxHeartbeats 4000000 in
theorem back_any (M : Nat → Nat) (s : Nat) (w : World) (hM : ∀ i, M i < 64) (hs : s < 6) (hE : ∀ i j, bitE M i j = true → i < 6 ∧ j < 6) (hcy : ∃ l, Wk (bitE M) s (l + 1) s) :
    Calls Tryd.prog 26 #[.agg (row6 M), .int .i64 s] w fun e w' => ∃ v far, e = .returned v ∧ FarI (bitE M) s far ∧ HoldI w' (New w w') (backL (bitE M) far s) v ∧ Below w.heap.size w w' := by
  obtain ⟨i0, hi, hz0, hz1, hz2⟩ := info_parts infoInt_
  have HM := hide hM
  have HE := hide hE
  have HCy := hide hcy
  clear hM hE hcy
  have HB1 := hide (((Below.refl _ w).alloc (Nat.le_refl _) (.cells (row6 M) 44)).alloc (by simp) (.cells #[.int .i64 (-1)] 3))
  have HK1 := hide (heap_alloc2_old w (.cells (row6 M) 44) (.cells #[.int .i64 (-1)] 3))
  have HN1 := hide (heap_alloc2_new w (.cells (row6 M) 44) (.cells #[.int .i64 (-1)] 3))
  go_enter Tryd.func26, Tryd.ntmps26
  go_upto_region 2 with (go_at_call 35; refine (repeat_six _ _ _ HN1.out).mono ?_; rintro e w2 ⟨rfl, hk2, hb2⟩; have HF2 := hide hk2; have HB2 := hide hb2; clear hk2 hb2)
  have HX2 := hide (show Bk M w (w2.alloc (.cells #[] 3)) ((w.alloc (.cells (row6 M) 44)).alloc (.cells #[.int .i64 (-1)] 3)).heap.size (b0 (bitE M) s 0).1 (b0 (bitE M) s 0).2 (.slice (some ⟨w2.heap.size, 0, none⟩) 0 0) from
    ⟨((show Blk _ w.heap.size 44 (row6 M) from HK1.out).below HB2.out (by simp; omega)).alloc _, by have := HF2.out; rw [cellsI_six] at this; exact this.alloc _, Que.empty _ ⟨by have := HF2.out.lt; simp at this ⊢; omega, by simp [Old]⟩, (HB1.out.trans (HB2.out.mono HB1.out.size)).alloc (Nat.le_trans HB1.out.size HB2.out.size) _, by simp; omega⟩)
  obtain ⟨gF, hgF⟩ : ∃ gF, gF = ((w.alloc (.cells (row6 M) 44)).alloc (.cells #[.int .i64 (-1)] 3)).heap.size := ⟨_, rfl⟩
  have hgF2 : gF = w.heap.size + 1 + 1 := by rw [hgF]; simp
  rw [← hgF] at HX2
  clear HB1 HK1 HN1 HF2 HB2
  go_wp2_with fail
  subst hgF2
  clear hgF
  obtain ⟨gF, hgF⟩ : ∃ gF, gF = w.heap.size + 1 + 1 := ⟨_, rfl⟩
  rw [← hgF] at HX2
  simp only [World.size_alloc, ← hgF]
  clear hgF
  go_loopw [6, 7, 17] (fun q _ c wr => ∃ i : Nat, i ≤ 6 ∧ c = .int .i64 i ∧ Hid (Bk M w wr gF (b0 (bitE M) s i).1 (b0 (bitE M) s i).2 q)) (fun _ _ c _ => 6 - (intOf c).toNat)
  case atStart => exact ⟨0, Nat.zero_le _, rfl, HX2.out⟩
  case round =>
    obtain ⟨i, hi6, rfl, hX⟩ := hrel
    have HX := hide hX.out
    clear hX HX2
    by_cases hlt : i < 6
    · have hil : (i : Int) < 6 := by omega
      obtain ⟨hl1, hl2⟩ := b0_len (bitE M) s i hi6
      have HSt := hide (b0_succ (bitE M) s i)
      generalize b0 (bitE M) s i = st at HX HSt hl1 hl2
      obtain ⟨F, q⟩ := st
      dsimp only at HX HSt hl1 hl2
      cases hq : (M i).testBit s with
      | false =>
        have HS2 := hide (show b0 (bitE M) s (i + 1) = (F, q) from HSt.out.trans (by unfold b0Step bitE; rw [hq]; rfl))
        have HQ := hide hq
        clear hq
        go_wp2_with (first | (refine wpList_load_row rfl 44 (.tmp 2) rfl w.heap.size rfl 44 _ (0, 0) _ HX.out.m Tryd.underlying44 rfl infoMat ?_) | (go_at_call 22; refine (has_ M i s hlt hs (HM.out _) _).mono ?_; rintro e w4 ⟨rfl, hb4⟩; have HX4 := hide (HX.out.below hb4); clear hb4; rw [HQ.out]))
        go_roundw
        case rel => exact ⟨i + 1, by omega, by go_num, by rw [HS2.out]; exact HX4.out⟩
        case measure => simp [intOf]; omega
      | true =>
        have HS2 := hide (show b0 (bitE M) s (i + 1) = (F.set i 1, q ++ [(i : Int)]) from HSt.out.trans (by unfold b0Step bitE; rw [hq]; rfl))
        have HQ := hide hq
        clear hq
        go_wp2_with (first | (refine wpList_load_row rfl 44 (.tmp 2) rfl w.heap.size rfl 44 _ (0, 0) _ HX.out.m Tryd.underlying44 rfl infoMat ?_) | (go_at_call 22; refine (has_ M i s hlt hs (HM.out _) _).mono ?_; rintro e w4 ⟨rfl, hb4⟩; have HX4 := hide (HX.out.below hb4); clear hb4; rw [HQ.out]; obtain ⟨cx, fx⟩ := HX4.out.cell (i := i) (by omega); have HX5 := hide (HX4.out.set i 1)) | (at_builtin; go_loud (refine wpList_que rfl (.tmp 27) (.tmp 29) 24 rfl 3 i0 _ 8 Tryd.underlying24 hi hz0 hz1 hz2 rfl (fun b => gF < b) q (i : Int) _ rfl HX5.out.q 1 (by first | rfl | (rw [World.size_setCell]; rfl)) (fun b hb => by have := HX5.out.f.lt; omega) (by simp only [maxLen]; omega) (by omega) ?_; intro v6 w6 hO_ hK_; have HX6 := hide (HX5.out.put hO_ hK_); clear hO_ hK_)))
        go_roundw
        case rel => exact ⟨i + 1, by omega, by go_num, by rw [HS2.out]; exact HX6.out⟩
        case measure => simp [intOf]; omega
    · have HB0 := hide (show Bfs (bitE M) s (b0 (bitE M) s i) 1 by
        obtain rfl : i = 6 := by omega
        exact (bfs0 (E := bitE M) (s := s) 6 (Nat.le_refl _)).bfs)
      have hni : ¬ (i : Int) < 6 := by omega
      have hsm : (b0 (bitE M) s i).2.length + unf (b0 (bitE M) s i).1 ≤ 6 := Nat.le_of_eq (b0_meas (bitE M) s i hi6)
      generalize b0 (bitE M) s i = st at HB0 HX hsm
      clear hlt hi6
      go_wp2_with fail
      go_loopw [6, 8, 9] (fun q _ _ wr => ∃ (F : List Int) (ql : List Int) (d : Nat) (vo : Value), vo = q ∧ 1 ≤ d ∧ ql.length + unf F ≤ 6 ∧ Hid (Bfs (bitE M) s (F, ql) d) ∧ Hid (Bk M w wr gF F ql q)) (fun q _ _ wr => lenOf q + unfW wr gF)
      case atStart => exact ⟨st.1, st.2, 1, _, rfl, Nat.le_refl _, hsm, HB0.out, HX.out⟩
      case round =>
        obtain ⟨F, ql, d, vo, rfl, hd, hsz6, hB, hX⟩ := hrel
        have HB := hide hB.out; have HX := hide hX.out
        have hFl : F.length = 6 := HB.out.len
        clear hB hX HB0
        cases ql with
        | nil =>
          have HI := hide (HB.out.farI HE.out hd rfl)
          obtain ⟨l0, hw0⟩ := HCy.out
          obtain ⟨l1, _, hsh⟩ := hw0.sh1
          obtain ⟨b, rfl⟩ : ∃ b, l1 = b + 1 := ⟨l1 - 1, by have := hsh.1; omega⟩
          have hb6 := far_small HE.out hs hsh
          have hfs := (HI.out.is s hs (b + 1) (by omega)).2 hsh
          obtain ⟨g, off, cap, cur, hve, _, _, _, _, _, _⟩ := HX.out.q
          subst hve
          obtain ⟨cx, fx⟩ := HX.out.cell (i := s) (by omega)
          rw [hfs] at cx
          have HY := hide (show Wy M w (wr.alloc (.cells #[.int .i64 s] 3)) gF F [(s : Int)] (.slice (some ⟨wr.heap.size, 0, none⟩) 1 1) from HX.out.way s)
          have HBl := hide (show [(s : Int)] ++ wayI (bitE M) F b s = backL (bitE M) F s by unfold backL; rw [hfs, show (((b + 1 : Nat) : Int) - 1).toNat = b by omega]; rfl)
          have hsi : (s : Int) < 6 := by omega
          clear HX HB hd hsh hw0
          go_upto_region 21 with (fail)
          generalize wr.alloc (.cells #[.int .i64 s] 3) = W1 at HY ⊢
          obtain ⟨cy, fy⟩ := HY.out.cell (i := s) (by omega)
          rw [hfs] at cy
          clear cx fx hfs
          have HY2 := hide (fun n => show Wy M w (W1.drewN n) gF F [(s : Int)] (.slice (some ⟨wr.heap.size, 0, none⟩) 1 1) from HY.out.below (below_drewN (Below.refl _ W1) n))
          clear HY
          go_quiet (fail)
          go_wp2
          go_loopw [10, 11, 12, 13] (fun v at_ lf _ wr => ∃ (l a : Nat) (pre : List Int) (vo : Value), vo = v ∧ a < 6 ∧ at_ = .int .i64 a ∧ lf = .int .i64 ((l : Int) + 1) ∧ Hid (pre.length + l ≤ 7) ∧ Hid (pre ++ wayI (bitE M) F l a = backL (bitE M) F s) ∧ Hid (Wy M w wr gF F pre v)) (fun _ _ lf _ _ => (intOf lf).toNat)
          case atStart => exact ⟨b, s, [(s : Int)], _, rfl, hs, rfl, by go_num, by simp [Hid]; omega, HBl.out, HY2.out _⟩
          case round =>
            obtain ⟨l, a, pre, vo, rfl, ha6, rfl, rfl, hpl, hpw, hY⟩ := hrel
            have HPl := hide hpl.out; have HPw := hide hpw.out; have HY := hide hY.out
            clear hpl hpw hY HY2 HBl cy fy
            cases l with
            | zero =>
              have HFin := hide (show pre = backL (bitE M) F s by have := HPw.out; rwa [wayI, List.append_nil] at this)
              obtain ⟨A, c, rfl, h1, h2, h3⟩ := HY.out.o.sl
              go_wp2_with (go_at_call 36; refine (clip_Int9 _ _ _ _ h1 h2).mono ?_; rintro e w4 ⟨rfl, rfl⟩)
              go_ret
              refine ⟨_, F, rfl, HI.out, ?_, HY.out.b⟩
              rw [← HFin.out]
              obtain ⟨gg, hg, _⟩ := HY.out.o.hold
              exact ⟨gg, hg.clip.mono (fun b hb => ⟨by have := HY.out.lt; omega, hb.2⟩) (fun _ _ => rfl)⟩
            | succ l =>
              have HW := hide (show wayI (bitE M) F (l + 1) a = (stepW (bitE M) F ((l + 1 : Nat) : Int) a : Int) :: wayI (bitE M) F l (stepW (bitE M) F ((l + 1 : Nat) : Int) a) from rfl)
              have HPn := hide (show pre ++ [(stepW (bitE M) F ((l + 1 : Nat) : Int) a : Int)] ++ wayI (bitE M) F l (stepW (bitE M) F ((l + 1 : Nat) : Int) a) = backL (bitE M) F s by have := HPw.out; rw [HW.out] at this; rw [List.append_assoc]; exact this)
              have HSl := hide (stepW_lt (E := bitE M) (far := F) (l := ((l + 1 : Nat) : Int)) ha6)
              have hpl7 := HPl.out
              obtain ⟨lf, hlf⟩ : ∃ lf : Int, lf = (((l + 1 : Nat) : Int) + 1) := ⟨_, rfl⟩
              have hlf1 : 1 < lf := by omega
              have hlf8 : lf ≤ 9 := by omega
              have HLf := hide (show lf - 1 = ((l + 1 : Nat) : Int) by omega)
              have HLs := hide (show lf = (l : Int) + 1 + 1 by omega)
              rw [← hlf]
              clear hlf
              go_wp2_with fail
              go_loopw [11, 13, 78] (fun at_ _ c wr => ∃ n : Nat, n ≤ 6 ∧ c = .int .i64 n ∧ at_ = .int .i64 a ∧ Hid (∀ j, j < n → (bitE M a j && F.getD j 0 == ((l + 1 : Nat) : Int)) = false) ∧ Hid (Wy M w wr gF F pre vo)) (fun _ _ c _ => 6 - (intOf c).toNat)
              case atStart => exact ⟨0, Nat.zero_le _, rfl, rfl, (fun j h => absurd h (by omega)), HY.out⟩
              case round =>
                obtain ⟨n, hn6, rfl, rfl, hno, hY⟩ := hrel
                have HNo := hide hno.out; have HX := hide hY.out
                clear hno hY HY
                by_cases hlt : n < 6
                · have hnl : (n : Int) < 6 := by omega
                  cases hq : (M a).testBit n with
                  | false =>
                    have HQ := hide hq
                    have HN2 := hide (show ∀ j, j < n + 1 → (bitE M a j && F.getD j 0 == ((l + 1 : Nat) : Int)) = false from fun j hj => by
                      rcases Nat.lt_succ_iff_lt_or_eq.1 hj with h | rfl
                      · exact HNo.out j h
                      · unfold bitE; rw [hq]; rfl)
                    clear hq
                    go_wp2_with (first | (refine wpList_load_row rfl 44 (.tmp 2) rfl w.heap.size rfl 44 _ (0, 0) _ HX.out.m Tryd.underlying44 rfl infoMat ?_) | (go_at_call 22; refine (has_ M a n ha6 hlt (HM.out _) _).mono ?_; rintro e w4 ⟨rfl, hb4⟩; have HX4 := hide (HX.out.below hb4); clear hb4; rw [HQ.out]))
                    go_roundw
                    case rel => exact ⟨n + 1, by omega, by go_num, rfl, HN2.out, HX4.out⟩
                    case measure => simp [intOf]; omega
                  | true =>
                    have HQ := hide hq
                    obtain ⟨y, hy⟩ : ∃ y, F.getD n 0 = y := ⟨_, rfl⟩
                    have HYy := hide hy
                    cases hyl : (y == lf - 1) with
                    | false =>
                      have HN2 := hide (show ∀ j, j < n + 1 → (bitE M a j && F.getD j 0 == ((l + 1 : Nat) : Int)) = false from fun j hj => by
                        rcases Nat.lt_succ_iff_lt_or_eq.1 hj with h | rfl
                        · exact HNo.out j h
                        · rw [hy, ← HLf.out, hyl, Bool.and_false])
                      clear hq hy
                      go_wp2_with (first | (refine wpList_load_row rfl 44 (.tmp 2) rfl w.heap.size rfl 44 _ (0, 0) _ HX.out.m Tryd.underlying44 rfl infoMat ?_) | (go_at_call 22; refine (has_ M a n ha6 hlt (HM.out _) _).mono ?_; rintro e w4 ⟨rfl, hb4⟩; have HX4 := hide (HX.out.below hb4); clear hb4; rw [HQ.out]; obtain ⟨cx, fx⟩ := HX4.out.cell (i := n) (by omega); rw [HYy.out] at cx))
                      go_roundw
                      case rel => exact ⟨n + 1, by omega, by go_num, rfl, HN2.out, HX4.out⟩
                      case measure => simp [intOf]; omega
                    | true =>
                      have HSt := hide (show stepW (bitE M) F ((l + 1 : Nat) : Int) a = n from stepW_hit hlt (by unfold bitE; rw [hq, hy, ← HLf.out, hyl]; rfl) HNo.out)
                      rw [HSt.out] at HPn
                      clear hq hy
                      go_wp2_with (first | (refine wpList_load_row rfl 44 (.tmp 2) rfl w.heap.size rfl 44 _ (0, 0) _ HX.out.m Tryd.underlying44 rfl infoMat ?_) | (go_at_call 22; refine (has_ M a n ha6 hlt (HM.out _) _).mono ?_; rintro e w4 ⟨rfl, hb4⟩; have HX4 := hide (HX.out.below hb4); clear hb4; rw [HQ.out]; obtain ⟨cx, fx⟩ := HX4.out.cell (i := n) (by omega); rw [HYy.out] at cx) | (at_builtin; refine wpList_put tInt rfl (.tmp 96) (.tmp 98) 24 rfl 3 i0 _ 8 Tryd.underlying24 hi hz0 hz1 hz2 rfl (by decide) (fun b => gF < b) (fun _ => False) pre (n : Int) [.int .i64 (n : Int)] _ rfl HX4.out.o 1 rfl rfl (fun _ h => h.elim) (fun b hb => by have := HX4.out.f.lt; omega) (by simp only [maxLen]; omega) (by omega) ?_; intro v6 w6 hO_ hK_; have HY6 := hide (HX4.out.put hO_ hK_); clear hO_ hK_))
                      go_roundw
                      case rel => exact ⟨l, n, pre ++ [(n : Int)], _, rfl, hlt, rfl, by rw [HLs.out]; go_num, by simp only [Hid, List.length_append, List.length_singleton]; omega, HPn.out, HY6.out⟩
                      case measure => simp [intOf]; omega
                · have HSt := hide (show stepW (bitE M) F ((l + 1 : Nat) : Int) a = a from stepW_miss (fun j hj => HNo.out j (by omega)))
                  rw [HSt.out] at HPn
                  have hnn : ¬ (n : Int) < 6 := by omega
                  go_wp2_with (at_builtin; refine wpList_put tInt rfl (.tmp 96) (.tmp 98) 24 rfl 3 i0 _ 8 Tryd.underlying24 hi hz0 hz1 hz2 rfl (by decide) (fun b => gF < b) (fun _ => False) pre (a : Int) [.int .i64 (a : Int)] _ rfl HX.out.o 1 rfl rfl (fun _ h => h.elim) (fun b hb => by have := HX.out.f.lt; omega) (by simp only [maxLen]; omega) (by omega) ?_; intro v6 w6 hO_ hK_; have HY6 := hide (HX.out.put hO_ hK_); clear hO_ hK_)
                  go_roundw
                  case rel => exact ⟨l, a, pre ++ [(a : Int)], _, rfl, ha6, rfl, by rw [HLs.out]; go_num, by simp only [Hid, List.length_append, List.length_singleton]; omega, HPn.out, HY6.out⟩
                  case measure => simp [intOf]; omega
        | cons a0 q0 =>
          obtain ⟨a, q, d', hq, ha6, hd', hR⟩ := Bfs.pop HE.out hd HB.out (by simp)
          obtain ⟨rfl, rfl⟩ : a0 = (a : Int) ∧ q0 = q := by simpa using hq
          clear hq hd HB
          have HR := hide hR
          have hd6 : d' ≤ 6 := by
            rcases hR.val a ha6 with h1 | ⟨l', h1, h2⟩
            · have := hR.cur; omega
            · have := far_small HE.out hs h2
              have := hR.cur
              omega
          clear hR
          have HU := hide (HX.out.unf)
          have HMe := hide (fun n hn => bRow_meas (E := bitE M) (a := a) (st := (F, q0)) hFl (by have h0 : F.getD a 0 = (d' : Int) := HR.out.cur; simp only; omega) n hn)
          obtain ⟨g, off, cap, rfl, hqc, hcm, hcell, hpop⟩ := HX.out.q.pop
          obtain ⟨Ad, hAd⟩ : ∃ Ad : Option Addr, (if cap = 0 then some (⟨g, off, none⟩ : Addr) else some ⟨g, off + 1, none⟩) = Ad := ⟨_, rfl⟩
          rw [hAd] at hpop
          have HXp := hide (HX.out.with hpop)
          have h1l : (0 : Int) < (q0.length : Int) + 1 := by omega
          have h1m : (1 : Int) ≤ (q0.length : Int) + 1 := by omega
          have h1d : (1 : Int) ≤ (cap : Int) + 1 := by omega
          unfold maxLen at hcm
          clear hpop HX
          go_wp2_with fail
          go_loopw [6, 9, 40] (fun v _ c wr => ∃ i : Nat, i ≤ 6 ∧ c = .int .i64 i ∧ Hid (Bk M w wr gF (bRow (bitE M) a (F, q0) i).1 (bRow (bitE M) a (F, q0) i).2 v)) (fun _ _ c _ => 6 - (intOf c).toNat)
          case atStart => exact ⟨0, Nat.zero_le _, rfl, HXp.out⟩
          case round =>
            obtain ⟨i, hi6, rfl, hX⟩ := hrel
            have HX := hide hX.out
            clear hX HXp hcell
            by_cases hlt : i < 6
            · have hil : (i : Int) < 6 := by omega
              have HSt := hide (bRow_succ (bitE M) a (F, q0) i)
              obtain ⟨hm1, hm2, hm3⟩ := HMe.out i hi6
              have hcur := HR.out.cur
              generalize bRow (bitE M) a (F, q0) i = st2 at HX HSt hm1 hm2 hm3
              obtain ⟨F2, q2⟩ := st2
              dsimp only at HX HSt hm1 hm2 hm3 hcur
              rw [hcur] at hm3
              have hq2 : q2.length ≤ 6 := by
                simp only [List.length_cons] at hsz6
                omega
              cases hq : (M i).testBit a with
              | false =>
                have HS2 := hide (show bRow (bitE M) a (F, q0) (i + 1) = (F2, q2) from HSt.out.trans (by unfold bStep bitE; rw [hq]; simp))
                have HQ := hide hq
                clear hq
                go_wp2_with (first | (refine wpList_load_row rfl 44 (.tmp 2) rfl w.heap.size rfl 44 _ (0, 0) _ HX.out.m Tryd.underlying44 rfl infoMat ?_) | (go_at_call 22; refine (has_ M i a hlt ha6 (HM.out _) _).mono ?_; rintro e w4 ⟨rfl, hb4⟩; have HX4 := hide (HX.out.below hb4); clear hb4; rw [HQ.out]))
                go_roundw
                case rel => exact ⟨i + 1, by omega, by go_num, by rw [HS2.out]; exact HX4.out⟩
                case measure => simp [intOf]; omega
              | true =>
                have HQ := hide hq
                obtain ⟨y, hy⟩ : ∃ y, F2.getD i 0 = y := ⟨_, rfl⟩
                have HYy := hide hy
                by_cases hneg : y < 0
                · have HS2 := hide (show bRow (bitE M) a (F, q0) (i + 1) = (F2.set i ((d' : Int) + 1), q2 ++ [(i : Int)]) from HSt.out.trans (by unfold bStep bitE; rw [if_pos ⟨hq, by simp only; rw [hy]; exact hneg⟩, hm3]))
                  clear hq hy
                  go_wp2_with (first | (refine wpList_load_row rfl 44 (.tmp 2) rfl w.heap.size rfl 44 _ (0, 0) _ HX.out.m Tryd.underlying44 rfl infoMat ?_) | (go_at_call 22; refine (has_ M i a hlt ha6 (HM.out _) _).mono ?_; rintro e w4 ⟨rfl, hb4⟩; have HX4 := hide (HX.out.below hb4); clear hb4; rw [HQ.out]; obtain ⟨cx, fx⟩ := HX4.out.cell (i := i) (by omega); rw [HYy.out] at cx; obtain ⟨ca, fa⟩ := HX4.out.cell (i := a) (by omega); rw [hm3] at ca; have HX5 := hide (HX4.out.set i ((d' : Int) + 1)); have hai : 0 = 0 := rfl) | (at_builtin; go_loud (refine wpList_que rfl (.tmp 62) (.tmp 64) 24 rfl 3 i0 _ 8 Tryd.underlying24 hi hz0 hz1 hz2 rfl (fun b => gF < b) q2 (i : Int) _ rfl HX5.out.q 1 (by first | rfl | (rw [World.size_setCell]; rfl)) (fun b hb => by have := HX5.out.f.lt; omega) (by simp only [maxLen]; omega) (by omega) ?_; intro v6 w6 hO_ hK_; have HX6 := hide (HX5.out.put hO_ hK_); clear hO_ hK_)))
                  go_roundw
                  case rel => exact ⟨i + 1, by omega, by go_num, by rw [HS2.out]; exact HX6.out⟩
                  case measure => simp [intOf]; omega
                · have HS2 := hide (show bRow (bitE M) a (F, q0) (i + 1) = (F2, q2) from HSt.out.trans (by unfold bStep bitE; rw [if_neg (fun h => hneg (by have := h.2; simp only at this; rw [hy] at this; exact this))]))
                  clear hq hy
                  go_wp2_with (first | (refine wpList_load_row rfl 44 (.tmp 2) rfl w.heap.size rfl 44 _ (0, 0) _ HX.out.m Tryd.underlying44 rfl infoMat ?_) | (go_at_call 22; refine (has_ M i a hlt ha6 (HM.out _) _).mono ?_; rintro e w4 ⟨rfl, hb4⟩; have HX4 := hide (HX.out.below hb4); clear hb4; rw [HQ.out]; obtain ⟨cx, fx⟩ := HX4.out.cell (i := i) (by omega); rw [HYy.out] at cx))
                  go_roundw
                  case rel => exact ⟨i + 1, by omega, by go_num, by rw [HS2.out]; exact HX4.out⟩
                  case measure => simp [intOf]; omega
            · obtain rfl : i = 6 := by omega
              have HD := hide ((HR.out.row 6 (Nat.le_refl _)).done)
              obtain ⟨hm1, hm2, hm3⟩ := HMe.out 6 (Nat.le_refl _)
              generalize bRow (bitE M) a (F, q0) 6 = st2 at HX HD hm1
              obtain ⟨F2, q2⟩ := st2
              dsimp only at HX HD hm1
              have HU2 := hide HX.out.unf
              have HL2 := hide HX.out.q.lenOf
              go_wp2_with fail
              go_roundw
              case rel => exact ⟨F2, q2, d', _, rfl, hd', by simp only [List.length_cons] at hsz6; omega, HD.out, HX.out⟩
              case measure => rw [HU.out, HU2.out, HL2.out]; simp only [lenOf]; omega
end Go.Proofs.YtnlicjgegclilaaDoor
