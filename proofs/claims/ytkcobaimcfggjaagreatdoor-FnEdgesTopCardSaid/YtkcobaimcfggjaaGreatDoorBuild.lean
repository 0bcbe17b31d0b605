/- append onto a slice of the call's own, in the words of Own and Row. Over any program. -/
import Derived.Test.YtkcobaimcfggjaaGreatDoorBase
import Derived.BigFrame
namespace Go.Proofs.YtkcobaimcfggjaaGreatDoor
open Go.RowKit

/-- The cells of a row that is read whole. -/
theorem cells_of_row {α : Type} {T : Ty α} {w : World} {S : Nat → Prop} {b off : Nat} : ∀ {xs : List α}, RowAt T w S b off xs →
    ∃ cells : List Value, cells.length = xs.length * T.size ∧ (∀ j u, cells[j]? = some u → w.cell? ⟨b, off + j, none⟩ = some u) ∧ (∀ u ∈ cells, u.oneCell' = true) ∧
      ∀ k (h : k < xs.length), T.rel w S xs[k] ((cells.drop (k * T.size)).take T.size) := by
  intro xs
  induction xs generalizing off with
  | nil => intro _; exact ⟨[], by simp, fun j u h => by simp at h, fun u h => by simp at h, fun k h => absurd h (by simp)⟩
  | cons x xs ih =>
    intro h
    obtain ⟨cs, hr, hcs⟩ := h 0 (by simp)
    obtain ⟨cells, hl, hc, h1, hrel⟩ := ih (off := off + T.size) (fun k hk => by
      obtain ⟨cs', hr', hcs'⟩ := h (k + 1) (by simpa using hk)
      refine ⟨cs', by simpa using hr', fun j u hu => ?_⟩
      have := hcs' j u hu
      rwa [Nat.add_mul, Nat.one_mul, show off + (k * T.size + T.size) + j = off + T.size + k * T.size + j by omega] at this)
    have hlen := T.len hr
    refine ⟨cs ++ cells, ?_, fun j u hu => ?_, fun u hu => ?_, fun k hk => ?_⟩
    · rw [List.length_append, hlen, hl, List.length_cons, Nat.add_mul]; omega
    · rcases Nat.lt_or_ge j cs.length with hj | hj
      · rw [List.getElem?_append_left hj] at hu
        have := hcs j u hu
        simpa using this
      · rw [List.getElem?_append_right hj, hlen] at hu
        have := hc (j - T.size) u hu
        rwa [show off + T.size + (j - T.size) = off + j by omega] at this
    · rcases List.mem_append.1 hu with h' | h'
      · exact T.one hr u h'
      · exact h1 u h'
    · cases k with
      | zero =>
        have e : (cs ++ cells).take T.size = cs := by rw [← hlen]; exact List.take_left
        simpa [e] using hr
      | succ k =>
        have e : (cs ++ cells).drop ((k + 1) * T.size) = cells.drop (k * T.size) := by
          rw [Nat.add_mul, Nat.one_mul, Nat.add_comm, ← List.drop_drop, ← hlen, List.drop_left]
        rw [e]
        simpa using hrel k (by simpa using hk)

theorem own_of_cells {α : Type} {T : Ty α} {e : TypeId} {w : World} {S S' : Nat → Prop} {xs : List α} {v : Value} {cells : List Value} (hown : w.ownsRow 0 e T.size v xs.length cells)
    (hrel : ∀ k (h : k < xs.length), T.rel w S' xs[k] ((cells.drop (k * T.size)).take T.size)) (hS : ∀ g, v.ownBlock = some g → S g) (hS' : ∀ b, S' b → S b ∧ v.ownBlock ≠ some b) : Own T e w S xs v := by
  obtain ⟨hl, h⟩ := hown
  rcases h with ⟨rfl, hn⟩ | ⟨g, cap, cur, rfl, _, hB, hnc, hcm, hcs, htake⟩
  · exact .inl ⟨rfl, List.eq_nil_of_length_eq_zero hn⟩
  · refine .inr ⟨g, cap, cur, S', rfl, hS g rfl, hB, hnc, hcm, hcs, fun b hb => ⟨(hS' b hb).1, fun e => (hS' b hb).2 (by simp [Value.ownBlock, e])⟩, fun k hk => ⟨_, hrel k hk, fun j u hu => ?_⟩⟩
    have hj : j < T.size := by
      rw [← T.len (hrel k hk)]
      exact (List.getElem?_eq_some_iff.1 hu).1
    have hB' : Blk w g e cur := hB
    rw [hB'.cell]
    rw [List.getElem?_take, if_pos hj, List.getElem?_drop, ← htake, List.getElem?_take] at hu
    split at hu
    · rw [Nat.zero_add]
      simpa using hu
    · cases hu

theorem cells_of_own {α : Type} {T : Ty α} {e : TypeId} {w : World} {S : Nat → Prop} {xs : List α} {v : Value} (h : Own T e w S xs v) :
    ∃ cells S', w.ownsRow 0 e T.size v xs.length cells ∧ (∀ k (h : k < xs.length), T.rel w S' xs[k] ((cells.drop (k * T.size)).take T.size)) ∧ (∀ g, v.ownBlock = some g → S g ∧ Old w g) ∧ (∀ b, S' b → S b ∧ v.ownBlock ≠ some b) := by
  rcases h with ⟨rfl, rfl⟩ | ⟨g, cap, cur, S', rfl, hg, hB, h1, h2, h3, h4, h5⟩
  · exact ⟨[], fun _ => False, World.ownsRow_nil _ _ _ _, fun k h => absurd h (by simp), fun g h => by simp [Value.ownBlock] at h, fun b h => h.elim⟩
  · obtain ⟨cells, hl, hc, _, hrel⟩ := cells_of_row h5
    refine ⟨cells, S', ⟨hl, .inr ⟨g, cap, cur, rfl, Nat.zero_le _, hB, h1, h2, h3, ?_⟩⟩, hrel, fun g' hg' => by simp [Value.ownBlock] at hg'; subst hg'; exact ⟨hg, hB.lt⟩, fun b hb => ⟨(h4 b hb).1, fun e => (h4 b hb).2 (by simpa [Value.ownBlock] using e.symm)⟩⟩
    have hle : xs.length * T.size ≤ cap * T.size := Nat.mul_le_mul_right _ h1
    apply List.ext_getElem?
    intro j
    rw [List.getElem?_take]
    split
    · rename_i hj
      rw [List.getElem?_eq_getElem (by omega : j < cells.length)]
      have := hc j _ (List.getElem?_eq_getElem (by omega))
      rw [hB.cell, Nat.zero_add] at this
      simpa using this
    · rename_i hj
      rw [List.getElem?_eq_none (by omega)]

/-- A row that is read now, wherever it lies; what its elements lead to is in S. -/
def RowAny {α : Type} (T : Ty α) (w : World) (S : Nat → Prop) (A : Option Addr) (xs : List α) : Prop := 0 < xs.length → ∃ b off, A = some ⟨b, off, none⟩ ∧ RowAt T w S b off xs
theorem Row.any {α : Type} {T : Ty α} {w : World} {S : Nat → Prop} {A : Option Addr} {xs : List α} (h : Row T w S A xs) : RowAny T w S A xs := fun hp => by
  obtain ⟨b, off, hA, _, hr⟩ := h hp
  exact ⟨b, off, hA, hr⟩
theorem Row.anyInt {w : World} {S : Nat → Prop} {A : Option Addr} {xs : List Int} (h : Row tInt w S A xs) : RowAny tInt w (fun _ => False) A xs := fun hp => by
  obtain ⟨b, off, hA, _, hr⟩ := h hp
  exact ⟨b, off, hA, fun k hk => hr k hk⟩
section
variable {P : Program}
/-- append(s, x...): s of the call's own, x any row. -/
theorem run_app {α : Type} (T : Ty α) (w : World) (t ty e : TypeId) (i : TypeInfo) (z : Value) (bytes : Nat) (ht : P.underlying t = some (.slice e)) (hi : P.info? e = some i) (hz : i.zero = some z)
    (hsize : i.size = T.size) (hby : i.bytes = bytes) (hzs : z.cells.size = T.size) (hsz : 0 < T.size)
    (S Sy S2 : Nat → Prop) (xs ys : List α) (v : Value) (hO : Own T e w S xs v) (A : Option Addr) (c : Nat) (hy : RowAny T w Sy A ys)
    (h63 : xs.length + ys.length ≤ maxLen) (hbytes : (xs.length + ys.length) * bytes ≤ 140737488355328)
    (hSo : ∀ b, S b → Old w b) (hSy : ∀ b, Sy b → Old w b ∧ v.ownBlock ≠ some b) (h1 : ∀ b, S b → S2 b) (h2 : ∀ b, Sy b → S2 b) (h3 : S2 w.heap.size) :
    ∃ v' w', (Builtin.append_ #[t, t] ty #[v, .slice A ys.length c]).run P w = .ok v' w' ∧ Own T e w' (fun b => S2 b ∧ Old w' b) (xs ++ ys) v' ∧ w.grownBy w' v.ownBlock := by
  by_cases hp : 0 < ys.length
  · obtain ⟨b, off, rfl, hrow⟩ := hy hp
    obtain ⟨news, hnl, hnc, hn1, hnrel⟩ := cells_of_row hrow
    obtain ⟨cells, S', hown, hrel, hg, hS'⟩ := cells_of_own hO
    obtain ⟨v', w', hrun, hown', hgrow, _, hat⟩ := run_append_own_at (P := P) w 0 t ty e i z T.size bytes ht hi hz hsize hby hzs hsz v xs.length cells hown ⟨b, off, none⟩ ys.length c news hnl
      (fun j u hu => by rw [Go.WideShapes.add_plain]; exact hnc j u hu) hn1 h63 hbytes (Nat.zero_le _)
    refine ⟨v', w', hrun, ?_, hgrow⟩
    have hcl := hown.1
    have hne : ∀ x, S' x ∨ Sy x → w'.heap[x]? = w.heap[x]? := fun x hx => by
      rcases hx with hx | hx
      · exact hgrow.block x (hSo x (hS' x hx).1) (fun e => (hS' x hx).2 e.symm)
      · exact hgrow.block x (hSy x hx).1 (fun e => (hSy x hx).2 e.symm)
    refine own_of_cells (S' := fun x => S' x ∨ Sy x) (by rw [List.length_append]; exact hown') (fun k hk => ?_) (fun g hg' => ?_) (fun x hx => ?_)
    · rw [List.length_append] at hk
      rcases Nat.lt_or_ge k xs.length with hlt | hge
      · have e1 : (xs ++ ys)[k]'(by rw [List.length_append]; omega) = xs[k] := List.getElem_append_left hlt
        have hk1 : k * T.size + T.size ≤ cells.length := by
          have : (k + 1) * T.size ≤ xs.length * T.size := Nat.mul_le_mul_right _ hlt
          rw [Nat.add_mul] at this; omega
        have e2 : ((cells ++ news).drop (k * T.size)).take T.size = (cells.drop (k * T.size)).take T.size := by
          rw [List.drop_append_of_le_length (by omega), List.take_append_of_le_length (by rw [List.length_drop]; omega)]
        rw [e1, e2]
        exact T.mono (hrel k hlt) (fun _ h => .inl h) (fun x hx => hne x (.inl hx))
      · have e1 : (xs ++ ys)[k]'(by rw [List.length_append]; omega) = ys[k - xs.length]'(by omega) := List.getElem_append_right hge
        have hk1 : xs.length * T.size ≤ k * T.size := Nat.mul_le_mul_right _ hge
        have e2 : (cells ++ news).drop (k * T.size) = news.drop ((k - xs.length) * T.size) := by
          rw [List.drop_append, List.drop_eq_nil_of_le (by omega), List.nil_append, hcl, Nat.sub_mul]
        rw [e1, e2]
        exact T.mono (hnrel _ (by omega)) (fun _ h => .inr h) (fun x hx => hne x (.inr hx))
    · have hlt := (hown'.lt g hg').2
      refine ⟨?_, hlt⟩
      rcases hat with e | e
      · rw [e] at hg'; exact h1 _ (hg g hg').1
      · rw [e] at hg'; simp at hg'; exact hg' ▸ h3
    · have hx2 : S2 x := by
        rcases hx with hx | hx
        · exact h1 _ (hS' x hx).1
        · exact h2 _ hx
      have hold : Old w x := by
        rcases hx with hx | hx
        · exact hSo x (hS' x hx).1
        · exact (hSy x hx).1
      refine ⟨⟨hx2, Nat.lt_of_lt_of_le hold hgrow.size⟩, ?_⟩
      rcases hat with e | e
      · rw [e]
        rcases hx with hx | hx
        · exact (hS' x hx).2
        · exact (hSy x hx).2
      · rw [e]
        intro h
        simp at h
        subst h
        exact absurd hold (Nat.lt_irrefl _)
  · have hnil : ys = [] := List.eq_nil_of_length_eq_zero (by omega)
    subst hnil
    have hO2 : Own T e w (fun b => S2 b ∧ Old w b) xs v := hO.mono (fun b h => ⟨h1 b h, hSo b h⟩) (fun _ _ => rfl)
    refine ⟨v, w, ?_, by simpa using hO2, World.grownBy.refl w _⟩
    rcases hO with ⟨rfl, rfl⟩ | ⟨g, cap, cur, S', rfl, hg, hB, hh1, _⟩
    · cases A <;> simp [Builtin.append_, run_underlying ht, sizeOf, typeInfo, hi, Builtin.lenOf, Builtin.firstCells, loadCells, loadCellsFrom]
    · cases A <;> simp [Builtin.append_, run_underlying ht, sizeOf, typeInfo, hi, Builtin.lenOf, Builtin.firstCells, hh1, storeCells, loadCells, loadCellsFrom]

theorem wp_app {α : Type} (T : Ty α) {w : World} {o : Oper} {a : Act} {K : Act → World → Prop} {Q : Exit → Act → World → Prop} (s x : Operand) (t : TypeId)
    (ho : o.op = .call { callee := .builtin .append, args := #[s, x], argTypes := #[t, t] })
    (e : TypeId) (i : TypeInfo) (z : Value) (bytes : Nat) (ht : P.underlying t = some (.slice e)) (hi : P.info? e = some i) (hz : i.zero = some z)
    (hsize : i.size = T.size) (hby : i.bytes = bytes) (hzs : z.cells.size = T.size) (hsz : 0 < T.size)
    (S Sy S2 : Nat → Prop) (xs ys : List α) (v : Value) (hs : a.eval s = v) (hO : Own T e w S xs v) (A : Option Addr) (m c : Nat) (hx : a.eval x = .slice A m c) (hm : m = ys.length) (hy : RowAny T w Sy A ys)
    (h63 : xs.length + ys.length ≤ maxLen) (hbytes : (xs.length + ys.length) * bytes ≤ 140737488355328)
    (hSo : ∀ b, S b → Old w b) (hSy : ∀ b, Sy b → Old w b ∧ v.ownBlock ≠ some b) (h1 : ∀ b, S b → S2 b) (h2 : ∀ b, Sy b → S2 b) (h3 : S2 w.heap.size)
    (h : ∀ v' w', Own T e w' (fun b => S2 b ∧ Old w' b) (xs ++ ys) v' → w.grownBy w' v.ownBlock → K (a.put o.dst v') w') : o.wp P a w K Q := by
  subst hm
  obtain ⟨v', w', hrun, h4, h5⟩ := run_app (P := P) T w t o.type e i z bytes ht hi hz hsize hby hzs hsz S Sy S2 xs ys v hO A c hy h63 hbytes hSo hSy h1 h2 h3
  unfold Oper.wp execOp
  simp only [ho, resolve, invoke, builtin, Sem.run_bind, Sem.run_pure, Result.andThen_ok, List.map_toArray, List.map_cons, List.map_nil, hs, hx, hrun]
  exact h v' w' h4 h5

theorem wpList_app {α : Type} (T : Ty α) {w : World} {ops : Array Oper} {rest : List Oper} {o : Oper} {a : Act} {Q : Exit → Act → World → Prop} (hgd : Region.wanted o (yielded ops a.tmps) = true) (s x : Operand) (t : TypeId)
    (ho : o.op = .call { callee := .builtin .append, args := #[s, x], argTypes := #[t, t] })
    (e : TypeId) (i : TypeInfo) (z : Value) (bytes : Nat) (ht : P.underlying t = some (.slice e)) (hi : P.info? e = some i) (hz : i.zero = some z)
    (hsize : i.size = T.size) (hby : i.bytes = bytes) (hzs : z.cells.size = T.size) (hsz : 0 < T.size)
    (S Sy S2 : Nat → Prop) (xs ys : List α) (v : Value) (hs : a.eval s = v) (hO : Own T e w S xs v) (A : Option Addr) (m c : Nat) (hx : a.eval x = .slice A m c) (hm : m = ys.length) (hy : RowAny T w Sy A ys)
    (h63 : xs.length + ys.length ≤ maxLen) (hbytes : (xs.length + ys.length) * bytes ≤ 140737488355328)
    (hSo : ∀ b, S b → Old w b) (hSy : ∀ b, Sy b → Old w b ∧ v.ownBlock ≠ some b) (h1 : ∀ b, S b → S2 b) (h2 : ∀ b, Sy b → S2 b) (h3 : S2 w.heap.size)
    (h : ∀ v' w', Own T e w' (fun b => S2 b ∧ Old w' b) (xs ++ ys) v' → w.grownBy w' v.ownBlock → wpList P ops Q rest (a.put o.dst v') w') : wpList P ops Q (o :: rest) a w :=
  BigFrame.wpList_want hgd fun _ hK => wp_app T s x t ho e i z bytes ht hi hz hsize hby hzs hsz S Sy S2 xs ys v hs hO A m c hx hm hy h63 hbytes hSo hSy h1 h2 h3 fun v' w' h4 h5 => hK _ _ (h v' w' h4 h5)
end

/-- The one-element row that append(s, x) makes of x first. -/
theorem row_one {α : Type} {T : Ty α} {w : World} {S : Nat → Prop} {x : α} {cs : List Value} (e : TypeId) (hr : T.rel w S x cs) (hS : ∀ b, S b → Old w b) :
    RowAny T (w.alloc (.cells cs.toArray e)) S (some ⟨w.heap.size, 0, none⟩) [x] := fun _ =>
  ⟨w.heap.size, 0, rfl, fun k hk => by
    obtain rfl : k = 0 := by simpa using hk
    refine ⟨cs, T.mono hr (fun b h => h) (fun b h => Below.heap_alloc _ _ _ (hS b h)), fun j u hu => ?_⟩
    simp only [Nat.zero_mul, Nat.zero_add]
    rw [(Blk.new w e cs.toArray).cell]
    simpa using hu⟩
theorem Own.nil_ {α : Type} {T : Ty α} {e : TypeId} {w : World} {S : Nat → Prop} : Own T e w S ([] : List α) (.slice none 0 0) := .inl ⟨rfl, rfl⟩
/-- An empty slice with room, newly made. -/
theorem Own.made {α : Type} {T : Ty α} {e : TypeId} (w : World) {S : Nat → Prop} (cur : Array Value) (cap : Nat) (hs : cur.size = cap * T.size) (hm : cap ≤ maxLen) (hS : S w.heap.size) :
    Own T e (w.alloc (.cells cur e)) S ([] : List α) (.slice (some ⟨w.heap.size, 0, none⟩) 0 cap) :=
  .inr ⟨_, cap, cur, fun _ => False, rfl, hS, Blk.new _ _ _, Nat.zero_le _, hm, hs, fun _ h => h.elim, RowAt.zero⟩
/-- What is owned stays so while other blocks are made. -/
theorem Own.below {α : Type} {T : Ty α} {e : TypeId} {w w' : World} {S : Nat → Prop} {xs : List α} {v : Value} (h : Own T e w S xs v) (hb : Below w.heap.size w w') (hS : ∀ b, S b → Old w b) : Own T e w' S xs v :=
  h.mono (fun _ h => h) fun b hb' => hb.block b (hS b hb')
theorem own_lt {α : Type} {T : Ty α} {e : TypeId} {w : World} {S : Nat → Prop} {xs : List α} {v : Value} {B : Nat} (h : Own T e w S xs v) (hS : ∀ b, S b → b < B) : ∀ k, v.ownBlock = some k → k < B := fun k hk => by
  rcases h with ⟨rfl, _⟩ | ⟨g, cap, cur, S', rfl, hg, _⟩
  · simp [Value.ownBlock] at hk
  · simp [Value.ownBlock] at hk; exact hk ▸ hS g hg
theorem own_ge {α : Type} {T : Ty α} {e : TypeId} {w : World} {S : Nat → Prop} {xs : List α} {v : Value} {B : Nat} (h : Own T e w S xs v) (hS : ∀ b, S b → B ≤ b) : ∀ k, v.ownBlock = some k → B ≤ k := fun k hk => by
  rcases h with ⟨rfl, _⟩ | ⟨g, cap, cur, S', rfl, hg, _⟩
  · simp [Value.ownBlock] at hk
  · simp [Value.ownBlock] at hk; exact hk ▸ hS g hg
end Go.Proofs.YtkcobaimcfggjaaGreatDoor
