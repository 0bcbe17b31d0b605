/- The program's reach and around: the closure of a matrix, and whether a number reaches itself. slices.Repeat([]int{-1}, 6). A queue of numbers: a slice of the call's own whose front is cut off. The program's back: a shortest way back to a number. The program's CycleOf and TopOrder. -/
import Derived.Test.YtjiobgfaohldhaaGreatDoorQGraph
import Derived.Test.YtjiobgfaohldhaaGreatDoorQContC
import Derived.Test.YtjiobgfaohldhaaGreatDoorQToA
import Derived.Laws.CopyOwn
import Derived.Deep.RegionLaw
namespace Go.Proofs.YtjiobgfaohldhaaGreatDoor
open Go.RowKit
set_option linter.unusedVariables false
set_option linter.unusedSimpArgs false

theorem or_u64' (a b : Nat) (ha : a < 64) (hb : b < 64) : bits .or .u64 (a : Int) (b : Int) = ((a ||| b : Nat) : Int) := u64_or_nat a b (by omega) (by omega)
theorem wPart_keep {M : Nat → Nat} {k n : Nat} (h : (M n).testBit k = false) : wPart M k (n + 1) = wPart M k n := by
  rw [wPart_succ]
  funext i
  by_cases hi : i = n
  · subst hi
    rw [if_pos rfl, wPart_at]
    unfold wRow
    rw [h]; rfl
  · rw [if_neg hi]
theorem wPart_hit {M : Nat → Nat} {k n : Nat} (h : (M n).testBit k = true) : wPart M k (n + 1) = fun i => if i = n then M n ||| M k else wPart M k n i := by
  rw [wPart_succ]
  funext i
  by_cases hi : i = n
  · subst hi
    rw [if_pos rfl, if_pos rfl]
    unfold wRow
    rw [h]; rfl
  · rw [if_neg hi, if_neg hi]
theorem wPart_zero (M : Nat → Nat) (k : Nat) : wPart M k 0 = M := by funext i; unfold wPart; rw [if_neg (Nat.not_lt_zero i)]
theorem row6_ext {M N : Nat → Nat} (h : ∀ i, i < 6 → M i = N i) : row6 M = row6 N := by
  unfold row6
  rw [h 0 (by decide), h 1 (by decide), h 2 (by decide), h 3 (by decide), h 4 (by decide), h 5 (by decide)]
theorem wPart_six (M : Nat → Nat) (k : Nat) : row6 (wPart M k 6) = row6 (wRow M k) := row6_ext fun i hi => by unfold wPart; rw [if_pos hi]
set_option maxRecDepth 10000 in
set_option maxHeartbeats 1000000 in
theorem reach_any (M : Nat → Nat) (w : World) (hM : ∀ i, M i < 64) :
    Calls Tryz.prog 96 #[.agg (row6 M)] w fun e w' => e = .returned (.agg (row6 (wN M 6))) ∧ Below w.heap.size w w' := by
  have HM := hide hM
  clear hM
  have HB0 := hide (((Below.refl _ w).alloc (Nat.le_refl _) (.cells (row6 M) 109)).alloc (by simp) (.cells (row6 (fun _ => 0)) 109))
  go_enter Tryz.func96, Tryz.ntmps96
  go_wp2
  go_loopw [3, 4, 5] (fun _ _ c wr => ∃ k : Nat, k ≤ 6 ∧ c = .int .i64 k ∧ Hid (Blk wr w.heap.size 109 (row6 (wN M k))) ∧ Hid (Blk wr (w.heap.size + 1) 109 (row6 (fun _ => 0))) ∧ Hid (Below w.heap.size w wr)) (fun _ _ c _ => 6 - (intOf c).toNat)
  case atStart => exact ⟨0, Nat.zero_le _, rfl, heap_alloc2_old _ _ _, heap_alloc2_new _ _ _, ((Below.refl _ _).alloc (Nat.le_refl _) _).alloc (by simp) _⟩
  case round =>
    obtain ⟨k, hk, rfl, h4, h5, hb⟩ := hrel
    have H4 := hide h4.out; have H5 := hide h5.out; have HB := hide hb.out
    clear h4 h5 hb HB0
    have HL := hide (wN_lt HM.out k)
    have HN := hide (show wN M (k + 1) = wRow (wN M k) k from rfl)
    by_cases hlt : k < 6
    · have hki : (k : Int) < 6 := by omega
      generalize wN M k = R at H4 HL HN
      go_wp2_with fail
      go_loopw [4, 8] (fun _ c wr => ∃ n : Nat, n ≤ 6 ∧ c = .int .i64 n ∧ Hid (Blk wr w.heap.size 109 (row6 (wPart R k n))) ∧ Hid (Blk wr (w.heap.size + 1) 109 (row6 (fun _ => 0))) ∧ Hid (Below w.heap.size w wr)) (fun _ c _ => 6 - (intOf c).toNat)
      case atStart => exact ⟨0, Nat.zero_le _, rfl, by rw [wPart_zero]; exact H4.out, H5.out, HB.out⟩
      case round =>
        obtain ⟨n, hn, rfl, h4, h5, hb⟩ := hrel
        have H6 := hide h4.out; have H7 := hide h5.out; have HB2 := hide hb.out
        clear h4 h5 hb H4 H5 HB
        by_cases hlt2 : n < 6
        · have hni : (n : Int) < 6 := by omega
          have hcn := (H6.out.cell n).trans (row6_get _ n hlt2)
          have hck := (H6.out.cell k).trans (row6_get _ k hlt)
          rw [wPart_at] at hcn
          rw [wPart_self] at hck
          have hfn := H6.out.frozen n
          have hsh := shr_eq (R n) k (HL.out n)
          have hor := or_u64' (R n) (R k) (HL.out n) (HL.out k)
          cases hq : (R n).testBit k with
          | true =>
            rw [hq] at hsh
            have HS := hide (show (row6 (wPart R k n)).setIfInBounds n (.int .u64 ((R n ||| R k : Nat) : Nat)) = row6 (wPart R k (n + 1)) by rw [wPart_hit hq, row6_set _ _ n hlt2])
            clear hq
            go_wp2_with fail
            go_still_tail 8, (by kernel_rfl)
            change wpList _ _ _ _ _ wr.drew
            obtain ⟨W2, hW2⟩ : ∃ W2, wr.drew = W2 := ⟨_, rfl⟩
            have H62 := hide (show Blk W2 w.heap.size 109 (row6 (wPart R k n)) by rw [← hW2]; exact H6.out)
            have H72 := hide (show Blk W2 (w.heap.size + 1) 109 (row6 (fun _ => 0)) by rw [← hW2]; exact H7.out)
            have HB3 := hide (show Below w.heap.size w W2 by rw [← hW2]; exact HB2.out.drew)
            rw [hW2]
            have hcn2 := (H62.out.cell n).trans (row6_get _ n hlt2)
            have hck2 := (H62.out.cell k).trans (row6_get _ k hlt)
            rw [wPart_at] at hcn2
            rw [wPart_self] at hck2
            have hfn2 := H62.out.frozen n
            clear hW2 hcn hck hfn
            go_wp2_with fail
            go_roundw
            case rel => exact ⟨n + 1, by omega, by go_num, by rw [← HS.out]; exact H62.out.set_ n _, H72.out.far (by simp) _, Below.setCell HB3.out (by simp) _⟩
            case measure => simp [intOf]; omega
          | false =>
            rw [hq] at hsh
            have HS := hide (wPart_keep hq)
            clear hq
            go_wp2_with fail
            go_roundw
            case rel => exact ⟨n + 1, by omega, by go_num, by rw [HS.out]; exact H6.out, H7.out, HB2.out⟩
            case measure => simp [intOf]; omega
        · obtain rfl : n = 6 := by omega
          have H8 := hide (show Blk wr w.heap.size 109 (row6 (wN M (k + 1))) by rw [HN.out, ← wPart_six]; exact H6.out)
          go_wp2_with fail
          go_roundw
          case rel => exact ⟨k + 1, by omega, by go_num, H8.out, H7.out, HB2.out⟩
          case measure => simp [intOf]; omega
    · obtain rfl : k = 6 := by omega
      go_wp2_with (first | (refine wpList_load_row rfl 109 (.tmp 1) rfl w.heap.size rfl 109 _ (0, 0) _ H4.out Tryz.underlying109 rfl infoMat ?_) | (refine wpList_store_row rfl 109 (.tmp 2) (.tmp 28) rfl (w.heap.size + 1) _ rfl rfl 109 _ H5.out infoMat rfl (row6_one _) ?_))
      exact bodyPost_ret (results_cell_row rfl _ _ (w.heap.size + 1) 109 _ (0, 0) _ rfl (setRow_heap _ _ _ _ _ _ H5.out) Tryz.underlying109 rfl infoMat) rfl ⟨rfl, setRow_below HB.out (by omega) _⟩
/-- A slice of the call's own that may begin anywhere in its block. -/
def Que (e : TypeId) (w : World) (S : Nat → Prop) (q : List Int) (v : Value) : Prop :=
  ∃ g off cap cur, v = .slice (some ⟨g, off, none⟩) q.length cap ∧ S g ∧ Blk w g e cur ∧ q.length ≤ cap ∧ cap ≤ maxLen ∧ off + cap ≤ cur.size ∧ ∀ j (hj : j < q.length), cur[off + j]? = some (.int .i64 q[j])
theorem Que.mono {e : TypeId} {w w' : World} {S S2 : Nat → Prop} {q : List Int} {v : Value} (h : Que e w S q v) (h1 : ∀ b, S b → S2 b) (h2 : ∀ b, S b → w'.heap[b]? = w.heap[b]?) : Que e w' S2 q v := by
  obtain ⟨g, off, cap, cur, rfl, hg, hB, h3, h4, h5, h6⟩ := h
  exact ⟨g, off, cap, cur, rfl, h1 g hg, hB.of (h2 g hg), h3, h4, h5, h6⟩
theorem Que.empty {e : TypeId} (w : World) {S : Nat → Prop} (hS : S w.heap.size) : Que e (w.alloc (.cells #[] e)) S [] (.slice (some ⟨w.heap.size, 0, none⟩) 0 0) :=
  ⟨_, 0, 0, #[], rfl, hS, Blk.new _ _ _, Nat.le_refl _, by simp [maxLen], by simp, fun j hj => absurd hj (by simp)⟩
section
variable {P : Program}
end
def cellsF (F : List Int) : Array Value := (F.map fun n => Value.int .i64 n).toArray
theorem cellsF_get {F : List Int} {k : Nat} (h : k < F.length) : (cellsF F)[k]? = some (.int .i64 (F.getD k 0)) := by
  unfold cellsF
  simp [List.getD_eq_getElem?_getD, h]
theorem cellsF_set (F : List Int) (k : Nat) (v : Int) : (cellsF F).setIfInBounds k (.int .i64 v) = cellsF (F.set k v) := by
  unfold cellsF
  simp [List.map_set]
/-- What stands while the search goes on: the matrix, the lengths, those that wait. -/
structure Bk (M : Nat → Nat) (w wr : World) (gF : Nat) (F q : List Int) (v : Value) : Prop where
  m : Blk wr w.heap.size 109 (row6 M)
  f : Blk wr gF 3 (cellsF F)
  q : Que 3 wr (fun b => gF < b ∧ Old wr b) q v
  b : Below w.heap.size w wr
  lt : w.heap.size < gF
section
variable {M : Nat → Nat} {w wr w' : World} {gF : Nat} {F q : List Int} {v : Value}
theorem Bk.below (h : Bk M w wr gF F q v) (hb : Below wr.heap.size wr w') : Bk M w w' gF F q v :=
  ⟨h.m.below hb h.m.lt, h.f.below hb h.f.lt, h.q.mono (fun b hb' => ⟨hb'.1, Nat.lt_of_lt_of_le hb'.2 hb.size⟩) (fun b hb' => hb.block b hb'.2), h.b.trans (hb.mono h.b.size), h.lt⟩
theorem Bk.set (h : Bk M w wr gF F q v) (i : Nat) (x : Int) : Bk M w (wr.setCell ⟨gF, i, none⟩ (.int .i64 x)) gF (F.set i x) q v :=
  ⟨h.m.far (by have := h.lt; simp; omega) _, by rw [← cellsF_set]; exact h.f.set_ i _, h.q.mono (fun b hb => ⟨hb.1, by have := hb.2; simpa [Old] using this⟩) (fun b hb => Below.heap_setCell _ _ _ _ (by have := hb.1; simp; omega)), Below.setCell h.b (Nat.le_of_lt h.lt) _, h.lt⟩
theorem Bk.put {q' : List Int} {v' : Value} (h : Bk M w wr gF F q v) (hq : Que 3 w' (fun b => gF < b ∧ Old w' b) q' v') (ho : Only (fun b => gF < b) wr w') : Bk M w w' gF F q' v' :=
  ⟨h.m.of (ho.block _ h.m.lt (by have := h.lt; omega)), h.f.of (ho.block _ h.f.lt (by omega)), hq, below_only h.b ho h.b.size (fun b hb => by have := h.lt; omega), h.lt⟩
theorem Bk.with {q' : List Int} {v' : Value} (h : Bk M w wr gF F q v) (hq : Que 3 wr (fun b => gF < b ∧ Old wr b) q' v') : Bk M w wr gF F q' v' := ⟨h.m, h.f, hq, h.b, h.lt⟩
theorem Bk.cell (h : Bk M w wr gF F q v) {i : Nat} (hi : i < F.length) : wr.cell? ⟨gF, i, none⟩ = some (.int .i64 (F.getD i 0)) ∧ wr.frozen? ⟨gF, i, none⟩ = false :=
  ⟨(h.f.cell i).trans (cellsF_get hi), h.f.frozen i⟩
end
def lenOf : Value → Nat
  | .slice _ n _ => n
  | _ => 0
theorem Que.lenOf {e : TypeId} {w : World} {S : Nat → Prop} {q : List Int} {v : Value} (h : Que e w S q v) : lenOf v = q.length := by
  obtain ⟨g, off, cap, cur, rfl, _⟩ := h; rfl
/-- What stands while the way is gathered. -/
structure Wy (M : Nat → Nat) (w wr : World) (gF : Nat) (F pre : List Int) (v : Value) : Prop where
  m : Blk wr w.heap.size 109 (row6 M)
  f : Blk wr gF 3 (cellsF F)
  o : Own tInt 3 wr (fun b => gF < b ∧ Old wr b) pre v
  b : Below w.heap.size w wr
  lt : w.heap.size < gF
section
variable {M : Nat → Nat} {w wr w' : World} {gF : Nat} {F pre : List Int} {v : Value}
theorem Wy.below (h : Wy M w wr gF F pre v) (hb : Below wr.heap.size wr w') : Wy M w w' gF F pre v :=
  ⟨h.m.below hb h.m.lt, h.f.below hb h.f.lt, h.o.mono (fun b hb' => ⟨hb'.1, Nat.lt_of_lt_of_le hb'.2 hb.size⟩) (fun b hb' => hb.block b hb'.2), h.b.trans (hb.mono h.b.size), h.lt⟩
theorem Wy.put {q' : List Int} {v' : Value} (h : Wy M w wr gF F pre v) (hq : Own tInt 3 w' (fun b => gF < b ∧ Old w' b) q' v') (ho : Only (fun b => gF < b) wr w') : Wy M w w' gF F q' v' :=
  ⟨h.m.of (ho.block _ h.m.lt (by have := h.lt; omega)), h.f.of (ho.block _ h.f.lt (by omega)), hq, below_only h.b ho h.b.size (fun b hb => by have := h.lt; omega), h.lt⟩
theorem Wy.cell (h : Wy M w wr gF F pre v) {i : Nat} (hi : i < F.length) : wr.cell? ⟨gF, i, none⟩ = some (.int .i64 (F.getD i 0)) ∧ wr.frozen? ⟨gF, i, none⟩ = false :=
  ⟨(h.f.cell i).trans (cellsF_get hi), h.f.frozen i⟩
theorem Bk.way {q : List Int} (h : Bk M w wr gF F q v) (s : Nat) : Wy M w (wr.alloc (.cells #[.int .i64 s] 3)) gF F [(s : Int)] (.slice (some ⟨wr.heap.size, 0, none⟩) 1 1) :=
  ⟨h.m.alloc _, h.f.alloc _, (Own.one (T := tInt) wr (S := fun _ => False) (K := fun b => gF < b ∧ Old (wr.alloc (.cells #[.int .i64 s] 3)) b) [.int .i64 s] rfl (fun _ h => h.elim) ⟨h.f.lt, by simp [Old]⟩), h.b.alloc h.b.size _, h.lt⟩
end
end Go.Proofs.YtjiobgfaohldhaaGreatDoor
