/- The program's reach and around: the closure of a matrix, and whether a number reaches itself. slices.Repeat([]int{-1}, 6). A queue of numbers: a slice of the call's own whose front is cut off. The program's back: a shortest way back to a number. The program's CycleOf and TopOrder. -/
import Derived.Test.YtjiobgfaohldhaaGreatDoorQGraph
import Derived.Test.YtjiobgfaohldhaaGreatDoorQAllF
import Derived.Test.YtjiobgfaohldhaaGreatDoorQBuild
import Derived.Laws.CopyOwn
import Derived.Deep.RegionLaw
namespace Go.Proofs.YtjiobgfaohldhaaGreatDoor
open Go.RowKit
set_option linter.unusedVariables false
set_option linter.unusedSimpArgs false

/-- A slice of the call's own that may begin anywhere in its block. -/
def Que (e : TypeId) (w : World) (S : Nat → Prop) (q : List Int) (v : Value) : Prop :=
  ∃ g off cap cur, v = .slice (some ⟨g, off, none⟩) q.length cap ∧ S g ∧ Blk w g e cur ∧ q.length ≤ cap ∧ cap ≤ maxLen ∧ off + cap ≤ cur.size ∧ ∀ j (hj : j < q.length), cur[off + j]? = some (.int .i64 q[j])
theorem Que.mono {e : TypeId} {w w' : World} {S S2 : Nat → Prop} {q : List Int} {v : Value} (h : Que e w S q v) (h1 : ∀ b, S b → S2 b) (h2 : ∀ b, S b → w'.heap[b]? = w.heap[b]?) : Que e w' S2 q v := by
  obtain ⟨g, off, cap, cur, rfl, hg, hB, h3, h4, h5, h6⟩ := h
  exact ⟨g, off, cap, cur, rfl, h1 g hg, hB.of (h2 g hg), h3, h4, h5, h6⟩
theorem Que.empty {e : TypeId} (w : World) {S : Nat → Prop} (hS : S w.heap.size) : Que e (w.alloc (.cells #[] e)) S [] (.slice (some ⟨w.heap.size, 0, none⟩) 0 0) :=
  ⟨_, 0, 0, #[], rfl, hS, Blk.new _ _ _, Nat.le_refl _, by simp [maxLen], by simp, fun j hj => absurd hj (by simp)⟩
section
variable {P : Program}
end
def cellsF (F : List Int) : Array Value := (F.map fun n => Value.int .i64 n).toArray
theorem cellsF_get {F : List Int} {k : Nat} (h : k < F.length) : (cellsF F)[k]? = some (.int .i64 (F.getD k 0)) := by
  unfold cellsF
  simp [List.getD_eq_getElem?_getD, h]
theorem cellsF_set (F : List Int) (k : Nat) (v : Int) : (cellsF F).setIfInBounds k (.int .i64 v) = cellsF (F.set k v) := by
  unfold cellsF
  simp [List.map_set]
/-- What stands while the search goes on: the matrix, the lengths, those that wait. -/
structure Bk (M : Nat → Nat) (w wr : World) (gF : Nat) (F q : List Int) (v : Value) : Prop where
  m : Blk wr w.heap.size 109 (row6 M)
  f : Blk wr gF 3 (cellsF F)
  q : Que 3 wr (fun b => gF < b ∧ Old wr b) q v
  b : Below w.heap.size w wr
  lt : w.heap.size < gF
section
variable {M : Nat → Nat} {w wr w' : World} {gF : Nat} {F q : List Int} {v : Value}
theorem Bk.below (h : Bk M w wr gF F q v) (hb : Below wr.heap.size wr w') : Bk M w w' gF F q v :=
  ⟨h.m.below hb h.m.lt, h.f.below hb h.f.lt, h.q.mono (fun b hb' => ⟨hb'.1, Nat.lt_of_lt_of_le hb'.2 hb.size⟩) (fun b hb' => hb.block b hb'.2), h.b.trans (hb.mono h.b.size), h.lt⟩
theorem Bk.set (h : Bk M w wr gF F q v) (i : Nat) (x : Int) : Bk M w (wr.setCell ⟨gF, i, none⟩ (.int .i64 x)) gF (F.set i x) q v :=
  ⟨h.m.far (by have := h.lt; simp; omega) _, by rw [← cellsF_set]; exact h.f.set_ i _, h.q.mono (fun b hb => ⟨hb.1, by have := hb.2; simpa [Old] using this⟩) (fun b hb => Below.heap_setCell _ _ _ _ (by have := hb.1; simp; omega)), Below.setCell h.b (Nat.le_of_lt h.lt) _, h.lt⟩
theorem Bk.put {q' : List Int} {v' : Value} (h : Bk M w wr gF F q v) (hq : Que 3 w' (fun b => gF < b ∧ Old w' b) q' v') (ho : Only (fun b => gF < b) wr w') : Bk M w w' gF F q' v' :=
  ⟨h.m.of (ho.block _ h.m.lt (by have := h.lt; omega)), h.f.of (ho.block _ h.f.lt (by omega)), hq, below_only h.b ho h.b.size (fun b hb => by have := h.lt; omega), h.lt⟩
theorem Bk.with {q' : List Int} {v' : Value} (h : Bk M w wr gF F q v) (hq : Que 3 wr (fun b => gF < b ∧ Old wr b) q' v') : Bk M w wr gF F q' v' := ⟨h.m, h.f, hq, h.b, h.lt⟩
theorem Bk.cell (h : Bk M w wr gF F q v) {i : Nat} (hi : i < F.length) : wr.cell? ⟨gF, i, none⟩ = some (.int .i64 (F.getD i 0)) ∧ wr.frozen? ⟨gF, i, none⟩ = false :=
  ⟨(h.f.cell i).trans (cellsF_get hi), h.f.frozen i⟩
end
def lenOf : Value → Nat
  | .slice _ n _ => n
  | _ => 0
theorem Que.lenOf {e : TypeId} {w : World} {S : Nat → Prop} {q : List Int} {v : Value} (h : Que e w S q v) : lenOf v = q.length := by
  obtain ⟨g, off, cap, cur, rfl, _⟩ := h; rfl
/-- What stands while the way is gathered. -/
structure Wy (M : Nat → Nat) (w wr : World) (gF : Nat) (F pre : List Int) (v : Value) : Prop where
  m : Blk wr w.heap.size 109 (row6 M)
  f : Blk wr gF 3 (cellsF F)
  o : Own tInt 3 wr (fun b => gF < b ∧ Old wr b) pre v
  b : Below w.heap.size w wr
  lt : w.heap.size < gF
section
variable {M : Nat → Nat} {w wr w' : World} {gF : Nat} {F pre : List Int} {v : Value}
theorem Wy.below (h : Wy M w wr gF F pre v) (hb : Below wr.heap.size wr w') : Wy M w w' gF F pre v :=
  ⟨h.m.below hb h.m.lt, h.f.below hb h.f.lt, h.o.mono (fun b hb' => ⟨hb'.1, Nat.lt_of_lt_of_le hb'.2 hb.size⟩) (fun b hb' => hb.block b hb'.2), h.b.trans (hb.mono h.b.size), h.lt⟩
theorem Wy.put {q' : List Int} {v' : Value} (h : Wy M w wr gF F pre v) (hq : Own tInt 3 w' (fun b => gF < b ∧ Old w' b) q' v') (ho : Only (fun b => gF < b) wr w') : Wy M w w' gF F q' v' :=
  ⟨h.m.of (ho.block _ h.m.lt (by have := h.lt; omega)), h.f.of (ho.block _ h.f.lt (by omega)), hq, below_only h.b ho h.b.size (fun b hb => by have := h.lt; omega), h.lt⟩
theorem Wy.cell (h : Wy M w wr gF F pre v) {i : Nat} (hi : i < F.length) : wr.cell? ⟨gF, i, none⟩ = some (.int .i64 (F.getD i 0)) ∧ wr.frozen? ⟨gF, i, none⟩ = false :=
  ⟨(h.f.cell i).trans (cellsF_get hi), h.f.frozen i⟩
theorem Bk.way {q : List Int} (h : Bk M w wr gF F q v) (s : Nat) : Wy M w (wr.alloc (.cells #[.int .i64 s] 3)) gF F [(s : Int)] (.slice (some ⟨wr.heap.size, 0, none⟩) 1 1) :=
  ⟨h.m.alloc _, h.f.alloc _, (Own.one (T := tInt) wr (S := fun _ => False) (K := fun b => gF < b ∧ Old (wr.alloc (.cells #[.int .i64 s] 3)) b) [.int .i64 s] rfl (fun _ h => h.elim) ⟨h.f.lt, by simp [Old]⟩), h.b.alloc h.b.size _, h.lt⟩
end
end Go.Proofs.YtjiobgfaohldhaaGreatDoor
