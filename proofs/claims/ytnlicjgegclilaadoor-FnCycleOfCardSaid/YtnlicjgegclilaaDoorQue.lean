/- A queue of numbers: a slice of the call's own whose front is cut off. -/
import Derived.Test.YtnlicjgegclilaaDoorHold
namespace Go.Proofs.YtnlicjgegclilaaDoor
open Go.RowKit
set_option linter.unusedVariables false
set_option linter.unusedSimpArgs false

/-- A slice of the call's own that may begin anywhere in its block. -/
def Que (e : TypeId) (w : World) (S : Nat → Prop) (q : List Int) (v : Value) : Prop :=
  ∃ g off cap cur, v = .slice (some ⟨g, off, none⟩) q.length cap ∧ S g ∧ Blk w g e cur ∧ q.length ≤ cap ∧ cap ≤ maxLen ∧ off + cap ≤ cur.size ∧ ∀ j (hj : j < q.length), cur[off + j]? = some (.int .i64 q[j])
theorem Que.mono {e : TypeId} {w w' : World} {S S2 : Nat → Prop} {q : List Int} {v : Value} (h : Que e w S q v) (h1 : ∀ b, S b → S2 b) (h2 : ∀ b, S b → w'.heap[b]? = w.heap[b]?) : Que e w' S2 q v := by
  obtain ⟨g, off, cap, cur, rfl, hg, hB, h3, h4, h5, h6⟩ := h
  exact ⟨g, off, cap, cur, rfl, h1 g hg, hB.of (h2 g hg), h3, h4, h5, h6⟩
theorem Que.empty {e : TypeId} (w : World) {S : Nat → Prop} (hS : S w.heap.size) : Que e (w.alloc (.cells #[] e)) S [] (.slice (some ⟨w.heap.size, 0, none⟩) 0 0) :=
  ⟨_, 0, 0, #[], rfl, hS, Blk.new _ _ _, Nat.le_refl _, by simp [maxLen], by simp, fun j hj => absurd hj (by simp)⟩
/-- The first number, and what is left behind 'q[1:]'. -/
theorem Que.pop {e : TypeId} {w : World} {S : Nat → Prop} {x : Int} {q : List Int} {v : Value} (h : Que e w S (x :: q) v) :
    ∃ g off cap, v = .slice (some ⟨g, off, none⟩) (q.length + 1) (cap + 1) ∧ q.length ≤ cap ∧ cap + 1 ≤ maxLen ∧ w.cell? ⟨g, off, none⟩ = some (.int .i64 x) ∧ Que e w S q (.slice (if cap = 0 then some ⟨g, off, none⟩ else some ⟨g, off + 1, none⟩) q.length cap) := by
  obtain ⟨g, off, cap, cur, rfl, hg, hB, h3, h4, h5, h6⟩ := h
  simp only [List.length_cons] at h3
  obtain ⟨c, rfl⟩ : ∃ c, cap = c + 1 := ⟨cap - 1, by omega⟩
  refine ⟨g, off, c, rfl, by omega, h4, ?_, ?_⟩
  · rw [hB.cell]
    have := h6 0 (by simp)
    simpa using this
  · by_cases h0 : c = 0
    · subst h0
      have hq : q = [] := List.eq_nil_of_length_eq_zero (by omega)
      subst hq
      rw [if_pos rfl]
      exact ⟨g, off, 0, cur, rfl, hg, hB, by simp, by simp [maxLen], by omega, fun j hj => absurd hj (by simp)⟩
    · rw [if_neg h0]
      refine ⟨g, off + 1, c, cur, rfl, hg, hB, by omega, by omega, by omega, fun j hj => ?_⟩
      have := h6 (j + 1) (by simpa using hj)
      rw [show off + 1 + j = off + (j + 1) by omega]
      simpa using this
section
variable {P : Program}
theorem wpList_que {w : World} {ops : Array Oper} {rest : List Oper} {o : Oper} {a : Act} {Q : Exit → Act → World → Prop} (hgd : Region.wanted o (yielded ops a.tmps) = true) (s x : Operand) (t : TypeId)
    (ho : o.op = .call { callee := .builtin .append, args := #[s, x], argTypes := #[t, t] })
    (e : TypeId) (i : TypeInfo) (z : Value) (bytes : Nat) (ht : P.underlying t = some (.slice e)) (hi : P.info? e = some i) (hz : i.zero = some z)
    (hsize : i.size = 1) (hby : i.bytes = bytes) (hzs : z.cells.size = 1)
    (K : Nat → Prop) (q : List Int) (y : Int) (v : Value) (hs : a.eval s = v) (hO : Que e w (fun b => K b ∧ Old w b) q v) (c : Nat) (hx : a.eval x = .slice (some ⟨w.heap.size, 0, none⟩) 1 c)
    (hK : ∀ b, w.heap.size ≤ b → K b)
    (h63 : q.length + 1 ≤ maxLen) (hbytes : (q.length + 1) * bytes ≤ 140737488355328)
    (h : ∀ v' w', Que e w' (fun b => K b ∧ Old w' b) (q ++ [y]) v' → Only K w w' → wpList P ops Q rest (a.put o.dst v') w') : wpList P ops Q (o :: rest) a (w.alloc (.cells #[.int .i64 y] e)) := by
  obtain ⟨g, off, cap, cur, rfl, hg, hB, h3, h4, h5, h6⟩ := hO
  have hB2 := hB.alloc (.cells #[.int .i64 y] e)
  have hN := Blk.new w e #[.int .i64 y]
  have hnews : ∀ (j : Nat) (u : Value), [Value.int .i64 y][j]? = some u → (w.alloc (.cells #[.int .i64 y] e)).cell? ((⟨w.heap.size, 0, none⟩ : Addr).add j) = some u := fun j u hj => by
    obtain ⟨hj0, rfl⟩ := List.getElem?_eq_some_iff.1 hj
    have : j = 0 := by simpa using hj0
    subst this
    rw [Go.WideShapes.add_plain]
    exact hN.cell 0
  have hlt := hB.lt
  refine BigFrame.wpList_want hgd fun K' hK' => ?_
  unfold Oper.wp execOp
  by_cases hroom : q.length + 1 ≤ cap
  · have hrun := run_append_room_cells (P := P) (w.alloc (.cells #[.int .i64 y] e)) t o.type e i ht hi g off q.length cap ⟨w.heap.size, 0, none⟩ 1 c [.int .i64 y] (by rw [hsize]; rfl) hnews
      (fun u hu => by simp at hu; subst hu; rfl) hroom
      (fun j hj => by
        have : j = 0 := by simpa using hj
        subst this
        rw [hsize, hB2.cell, Array.getElem?_eq_getElem (by omega)]; rfl)
      (fun j hj => hB2.frozen _)
    simp only [ho, resolve, invoke, builtin, Sem.run_bind, Sem.run_pure, Result.andThen_ok, List.map_toArray, List.map_cons, List.map_nil, hs, hx, hrun]
    refine hK' _ _ ?_
    have e1 : (w.alloc (.cells #[.int .i64 y] e)).setCells g (off + q.length * i.size) [.int .i64 y] = (w.alloc (.cells #[.int .i64 y] e)).setCell ⟨g, off + q.length, none⟩ (.int .i64 y) := by
      rw [hsize]; simp [World.setCells]
    rw [e1]
    refine h _ _ ⟨g, off, cap, cur.setIfInBounds (off + q.length) (.int .i64 y), by simp, ⟨hg.1, by have := hg.2; simp only [Old, World.size_setCell, World.size_alloc] at this ⊢; omega⟩, hB2.set_ _ _, by simpa using hroom, h4, by simpa using h5, fun j hj => ?_⟩ ((Only.of_alloc w _).setCell hg.1 _)
    simp only [List.length_append, List.length_singleton] at hj
    by_cases hjq : j < q.length
    · rw [Array.getElem?_setIfInBounds_ne (by omega), h6 j hjq, List.getElem_append_left hjq]
    · obtain rfl : j = q.length := by omega
      rw [Array.getElem?_setIfInBounds_self_of_lt (by omega), List.getElem_append_right (Nat.le_refl _)]
      simp
  · obtain ⟨v', w', hrun, hown, hgr⟩ := run_append_arg_grows (P := P) (w := w.alloc (.cells #[.int .i64 y] e)) t o.type e i z 1 bytes ht hi hz hsize hby hzs (by omega) ⟨g, off, none⟩ q.length cap (q.map fun n => .int .i64 n) (by simp)
      (fun j u hu => by
        rw [Go.WideShapes.add_plain, hB2.cell]
        obtain ⟨hj, rfl⟩ := List.getElem?_eq_some_iff.1 hu
        rw [List.length_map] at hj
        rw [h6 j hj]
        simp) ⟨w.heap.size, 0, none⟩ 1 c [.int .i64 y] rfl hnews (by omega) h63 hbytes
    simp only [ho, resolve, invoke, builtin, Sem.run_bind, Sem.run_pure, Result.andThen_ok, List.map_toArray, List.map_cons, List.map_nil, hs, hx, hrun]
    refine hK' _ _ ?_
    obtain ⟨hl, hown⟩ := hown
    rcases hown with ⟨_, h0⟩ | ⟨g', cap', cur', rfl, hge, hB', h1, h2, h3', htk⟩
    · omega
    · have hgs : w.heap.size ≤ g' := by have := hge; rw [World.size_alloc] at this; omega
      refine h _ _ ⟨g', 0, cap', cur', by simp, ⟨hK _ hgs, (show Blk w' g' e cur' from hB').lt⟩, hB', by simpa using h1, h2, by omega, fun j hj => ?_⟩ ((Only.of_alloc w _).trans (Only.of_grown hgr (fun i hi => by cases hi)))
      have h7 : (cur'.toList.take ((q.length + 1) * 1))[j]? = (q.map (fun n => Value.int .i64 n) ++ [.int .i64 y])[j]? := by rw [htk]
      simp only [List.length_append, List.length_singleton] at hj
      rw [List.getElem?_take, if_pos (by omega)] at h7
      rw [Nat.zero_add, ← Array.getElem?_toList, h7]
      by_cases hjq : j < q.length
      · rw [List.getElem?_append_left (by simpa using hjq), List.getElem_append_left hjq]
        simp [hjq]
      · obtain rfl : j = q.length := by omega
        rw [List.getElem?_append_right (by simp), List.getElem_append_right (Nat.le_refl _)]
        simp
end
end Go.Proofs.YtnlicjgegclilaaDoor
