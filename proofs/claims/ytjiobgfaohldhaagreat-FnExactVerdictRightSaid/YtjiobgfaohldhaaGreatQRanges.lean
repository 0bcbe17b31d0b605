/- append onto a slice of the call's own, in the words of Own and Row. Over any program. The reader of the draws: a byte slice and a place. What pick, odd and l20Open answer. The marks that the laws package writes into memory and reads back. append of one element onto a slice of the call's own, and what stays as it was. Ranges of numbers: what the small functions of the program and of the reference answer. The validity of an operation. -/
import Derived.Test.YtjiobgfaohldhaaGreatQToA
import Derived.Test.YtjiobgfaohldhaaGreatProg
import Derived.BigFrame
import Derived.Laws.BitsAllLaws
import Derived.Laws.BitsLemmas
import Derived.Deep.Cut
import Derived.IntWalk
import Derived.Deep.RegionHeld3
import Derived.WalkLawsBesides
namespace Go.Proofs.YtjiobgfaohldhaaGreat
open Go.RowKit

/-- The cells of a row that is read whole. -/
theorem cells_of_row {α : Type} {T : Ty α} {w : World} {S : Nat → Prop} {b off : Nat} : ∀ {xs : List α}, RowAt T w S b off xs →
    ∃ cells : List Value, cells.length = xs.length * T.size ∧ (∀ j u, cells[j]? = some u → w.cell? ⟨b, off + j, none⟩ = some u) ∧ (∀ u ∈ cells, u.oneCell' = true) ∧
      ∀ k (h : k < xs.length), T.rel w S xs[k] ((cells.drop (k * T.size)).take T.size) := by
  intro xs
  induction xs generalizing off with
  | nil => intro _; exact ⟨[], by simp, fun j u h => by simp at h, fun u h => by simp at h, fun k h => absurd h (by simp)⟩
  | cons x xs ih =>
    intro h
    obtain ⟨cs, hr, hcs⟩ := h 0 (by simp)
    obtain ⟨cells, hl, hc, h1, hrel⟩ := ih (off := off + T.size) (fun k hk => by
      obtain ⟨cs', hr', hcs'⟩ := h (k + 1) (by simpa using hk)
      refine ⟨cs', by simpa using hr', fun j u hu => ?_⟩
      have := hcs' j u hu
      rwa [Nat.add_mul, Nat.one_mul, show off + (k * T.size + T.size) + j = off + T.size + k * T.size + j by omega] at this)
    have hlen := T.len hr
    refine ⟨cs ++ cells, ?_, fun j u hu => ?_, fun u hu => ?_, fun k hk => ?_⟩
    · rw [List.length_append, hlen, hl, List.length_cons, Nat.add_mul]; omega
    · rcases Nat.lt_or_ge j cs.length with hj | hj
      · rw [List.getElem?_append_left hj] at hu
        have := hcs j u hu
        simpa using this
      · rw [List.getElem?_append_right hj, hlen] at hu
        have := hc (j - T.size) u hu
        rwa [show off + T.size + (j - T.size) = off + j by omega] at this
    · rcases List.mem_append.1 hu with h' | h'
      · exact T.one hr u h'
      · exact h1 u h'
    · cases k with
      | zero =>
        have e : (cs ++ cells).take T.size = cs := by rw [← hlen]; exact List.take_left
        simpa [e] using hr
      | succ k =>
        have e : (cs ++ cells).drop ((k + 1) * T.size) = cells.drop (k * T.size) := by
          rw [Nat.add_mul, Nat.one_mul, Nat.add_comm, ← List.drop_drop, ← hlen, List.drop_left]
        rw [e]
        simpa using hrel k (by simpa using hk)

theorem own_of_cells {α : Type} {T : Ty α} {e : TypeId} {w : World} {S S' : Nat → Prop} {xs : List α} {v : Value} {cells : List Value} (hown : w.ownsRow 0 e T.size v xs.length cells)
    (hrel : ∀ k (h : k < xs.length), T.rel w S' xs[k] ((cells.drop (k * T.size)).take T.size)) (hS : ∀ g, v.ownBlock = some g → S g) (hS' : ∀ b, S' b → S b ∧ v.ownBlock ≠ some b) : Own T e w S xs v := by
  obtain ⟨hl, h⟩ := hown
  rcases h with ⟨rfl, hn⟩ | ⟨g, cap, cur, rfl, _, hB, hnc, hcm, hcs, htake⟩
  · exact .inl ⟨rfl, List.eq_nil_of_length_eq_zero hn⟩
  · refine .inr ⟨g, cap, cur, S', rfl, hS g rfl, hB, hnc, hcm, hcs, fun b hb => ⟨(hS' b hb).1, fun e => (hS' b hb).2 (by simp [Value.ownBlock, e])⟩, fun k hk => ⟨_, hrel k hk, fun j u hu => ?_⟩⟩
    have hj : j < T.size := by
      rw [← T.len (hrel k hk)]
      exact (List.getElem?_eq_some_iff.1 hu).1
    have hB' : Blk w g e cur := hB
    rw [hB'.cell]
    rw [List.getElem?_take, if_pos hj, List.getElem?_drop, ← htake, List.getElem?_take] at hu
    split at hu
    · rw [Nat.zero_add]
      simpa using hu
    · cases hu

theorem cells_of_own {α : Type} {T : Ty α} {e : TypeId} {w : World} {S : Nat → Prop} {xs : List α} {v : Value} (h : Own T e w S xs v) :
    ∃ cells S', w.ownsRow 0 e T.size v xs.length cells ∧ (∀ k (h : k < xs.length), T.rel w S' xs[k] ((cells.drop (k * T.size)).take T.size)) ∧ (∀ g, v.ownBlock = some g → S g ∧ Old w g) ∧ (∀ b, S' b → S b ∧ v.ownBlock ≠ some b) := by
  rcases h with ⟨rfl, rfl⟩ | ⟨g, cap, cur, S', rfl, hg, hB, h1, h2, h3, h4, h5⟩
  · exact ⟨[], fun _ => False, World.ownsRow_nil _ _ _ _, fun k h => absurd h (by simp), fun g h => by simp [Value.ownBlock] at h, fun b h => h.elim⟩
  · obtain ⟨cells, hl, hc, _, hrel⟩ := cells_of_row h5
    refine ⟨cells, S', ⟨hl, .inr ⟨g, cap, cur, rfl, Nat.zero_le _, hB, h1, h2, h3, ?_⟩⟩, hrel, fun g' hg' => by simp [Value.ownBlock] at hg'; subst hg'; exact ⟨hg, hB.lt⟩, fun b hb => ⟨(h4 b hb).1, fun e => (h4 b hb).2 (by simpa [Value.ownBlock] using e.symm)⟩⟩
    have hle : xs.length * T.size ≤ cap * T.size := Nat.mul_le_mul_right _ h1
    apply List.ext_getElem?
    intro j
    rw [List.getElem?_take]
    split
    · rename_i hj
      rw [List.getElem?_eq_getElem (by omega : j < cells.length)]
      have := hc j _ (List.getElem?_eq_getElem (by omega))
      rw [hB.cell, Nat.zero_add] at this
      simpa using this
    · rename_i hj
      rw [List.getElem?_eq_none (by omega)]

/-- A row that is read now, wherever it lies; what its elements lead to is in S. -/
def RowAny {α : Type} (T : Ty α) (w : World) (S : Nat → Prop) (A : Option Addr) (xs : List α) : Prop := 0 < xs.length → ∃ b off, A = some ⟨b, off, none⟩ ∧ RowAt T w S b off xs
theorem Row.any {α : Type} {T : Ty α} {w : World} {S : Nat → Prop} {A : Option Addr} {xs : List α} (h : Row T w S A xs) : RowAny T w S A xs := fun hp => by
  obtain ⟨b, off, hA, _, hr⟩ := h hp
  exact ⟨b, off, hA, hr⟩
theorem Row.anyInt {w : World} {S : Nat → Prop} {A : Option Addr} {xs : List Int} (h : Row tInt w S A xs) : RowAny tInt w (fun _ => False) A xs := fun hp => by
  obtain ⟨b, off, hA, _, hr⟩ := h hp
  exact ⟨b, off, hA, fun k hk => hr k hk⟩
section
variable {P : Program}
/-- append(s, x...): s of the call's own, x any row. -/
theorem run_app {α : Type} (T : Ty α) (w : World) (t ty e : TypeId) (i : TypeInfo) (z : Value) (bytes : Nat) (ht : P.underlying t = some (.slice e)) (hi : P.info? e = some i) (hz : i.zero = some z)
    (hsize : i.size = T.size) (hby : i.bytes = bytes) (hzs : z.cells.size = T.size) (hsz : 0 < T.size)
    (S Sy S2 : Nat → Prop) (xs ys : List α) (v : Value) (hO : Own T e w S xs v) (A : Option Addr) (c : Nat) (hy : RowAny T w Sy A ys)
    (h63 : xs.length + ys.length ≤ maxLen) (hbytes : (xs.length + ys.length) * bytes ≤ 140737488355328)
    (hSo : ∀ b, S b → Old w b) (hSy : ∀ b, Sy b → Old w b ∧ v.ownBlock ≠ some b) (h1 : ∀ b, S b → S2 b) (h2 : ∀ b, Sy b → S2 b) (h3 : S2 w.heap.size) :
    ∃ v' w', (Builtin.append_ #[t, t] ty #[v, .slice A ys.length c]).run P w = .ok v' w' ∧ Own T e w' (fun b => S2 b ∧ Old w' b) (xs ++ ys) v' ∧ w.grownBy w' v.ownBlock := by
  by_cases hp : 0 < ys.length
  · obtain ⟨b, off, rfl, hrow⟩ := hy hp
    obtain ⟨news, hnl, hnc, hn1, hnrel⟩ := cells_of_row hrow
    obtain ⟨cells, S', hown, hrel, hg, hS'⟩ := cells_of_own hO
    obtain ⟨v', w', hrun, hown', hgrow, _, hat⟩ := run_append_own_at (P := P) w 0 t ty e i z T.size bytes ht hi hz hsize hby hzs hsz v xs.length cells hown ⟨b, off, none⟩ ys.length c news hnl
      (fun j u hu => by rw [Go.WideShapes.add_plain]; exact hnc j u hu) hn1 h63 hbytes (Nat.zero_le _)
    refine ⟨v', w', hrun, ?_, hgrow⟩
    have hcl := hown.1
    have hne : ∀ x, S' x ∨ Sy x → w'.heap[x]? = w.heap[x]? := fun x hx => by
      rcases hx with hx | hx
      · exact hgrow.block x (hSo x (hS' x hx).1) (fun e => (hS' x hx).2 e.symm)
      · exact hgrow.block x (hSy x hx).1 (fun e => (hSy x hx).2 e.symm)
    refine own_of_cells (S' := fun x => S' x ∨ Sy x) (by rw [List.length_append]; exact hown') (fun k hk => ?_) (fun g hg' => ?_) (fun x hx => ?_)
    · rw [List.length_append] at hk
      rcases Nat.lt_or_ge k xs.length with hlt | hge
      · have e1 : (xs ++ ys)[k]'(by rw [List.length_append]; omega) = xs[k] := List.getElem_append_left hlt
        have hk1 : k * T.size + T.size ≤ cells.length := by
          have : (k + 1) * T.size ≤ xs.length * T.size := Nat.mul_le_mul_right _ hlt
          rw [Nat.add_mul] at this; omega
        have e2 : ((cells ++ news).drop (k * T.size)).take T.size = (cells.drop (k * T.size)).take T.size := by
          rw [List.drop_append_of_le_length (by omega), List.take_append_of_le_length (by rw [List.length_drop]; omega)]
        rw [e1, e2]
        exact T.mono (hrel k hlt) (fun _ h => .inl h) (fun x hx => hne x (.inl hx))
      · have e1 : (xs ++ ys)[k]'(by rw [List.length_append]; omega) = ys[k - xs.length]'(by omega) := List.getElem_append_right hge
        have hk1 : xs.length * T.size ≤ k * T.size := Nat.mul_le_mul_right _ hge
        have e2 : (cells ++ news).drop (k * T.size) = news.drop ((k - xs.length) * T.size) := by
          rw [List.drop_append, List.drop_eq_nil_of_le (by omega), List.nil_append, hcl, Nat.sub_mul]
        rw [e1, e2]
        exact T.mono (hnrel _ (by omega)) (fun _ h => .inr h) (fun x hx => hne x (.inr hx))
    · have hlt := (hown'.lt g hg').2
      refine ⟨?_, hlt⟩
      rcases hat with e | e
      · rw [e] at hg'; exact h1 _ (hg g hg').1
      · rw [e] at hg'; simp at hg'; exact hg' ▸ h3
    · have hx2 : S2 x := by
        rcases hx with hx | hx
        · exact h1 _ (hS' x hx).1
        · exact h2 _ hx
      have hold : Old w x := by
        rcases hx with hx | hx
        · exact hSo x (hS' x hx).1
        · exact (hSy x hx).1
      refine ⟨⟨hx2, Nat.lt_of_lt_of_le hold hgrow.size⟩, ?_⟩
      rcases hat with e | e
      · rw [e]
        rcases hx with hx | hx
        · exact (hS' x hx).2
        · exact (hSy x hx).2
      · rw [e]
        intro h
        simp at h
        subst h
        exact absurd hold (Nat.lt_irrefl _)
  · have hnil : ys = [] := List.eq_nil_of_length_eq_zero (by omega)
    subst hnil
    have hO2 : Own T e w (fun b => S2 b ∧ Old w b) xs v := hO.mono (fun b h => ⟨h1 b h, hSo b h⟩) (fun _ _ => rfl)
    refine ⟨v, w, ?_, by simpa using hO2, World.grownBy.refl w _⟩
    rcases hO with ⟨rfl, rfl⟩ | ⟨g, cap, cur, S', rfl, hg, hB, hh1, _⟩
    · cases A <;> simp [Builtin.append_, run_underlying ht, sizeOf, typeInfo, hi, Builtin.lenOf, Builtin.firstCells, loadCells, loadCellsFrom]
    · cases A <;> simp [Builtin.append_, run_underlying ht, sizeOf, typeInfo, hi, Builtin.lenOf, Builtin.firstCells, hh1, storeCells, loadCells, loadCellsFrom]

theorem wp_app {α : Type} (T : Ty α) {w : World} {o : Oper} {a : Act} {K : Act → World → Prop} {Q : Exit → Act → World → Prop} (s x : Operand) (t : TypeId)
    (ho : o.op = .call { callee := .builtin .append, args := #[s, x], argTypes := #[t, t] })
    (e : TypeId) (i : TypeInfo) (z : Value) (bytes : Nat) (ht : P.underlying t = some (.slice e)) (hi : P.info? e = some i) (hz : i.zero = some z)
    (hsize : i.size = T.size) (hby : i.bytes = bytes) (hzs : z.cells.size = T.size) (hsz : 0 < T.size)
    (S Sy S2 : Nat → Prop) (xs ys : List α) (v : Value) (hs : a.eval s = v) (hO : Own T e w S xs v) (A : Option Addr) (m c : Nat) (hx : a.eval x = .slice A m c) (hm : m = ys.length) (hy : RowAny T w Sy A ys)
    (h63 : xs.length + ys.length ≤ maxLen) (hbytes : (xs.length + ys.length) * bytes ≤ 140737488355328)
    (hSo : ∀ b, S b → Old w b) (hSy : ∀ b, Sy b → Old w b ∧ v.ownBlock ≠ some b) (h1 : ∀ b, S b → S2 b) (h2 : ∀ b, Sy b → S2 b) (h3 : S2 w.heap.size)
    (h : ∀ v' w', Own T e w' (fun b => S2 b ∧ Old w' b) (xs ++ ys) v' → w.grownBy w' v.ownBlock → K (a.put o.dst v') w') : o.wp P a w K Q := by
  subst hm
  obtain ⟨v', w', hrun, h4, h5⟩ := run_app (P := P) T w t o.type e i z bytes ht hi hz hsize hby hzs hsz S Sy S2 xs ys v hO A c hy h63 hbytes hSo hSy h1 h2 h3
  unfold Oper.wp execOp
  simp only [ho, resolve, invoke, builtin, Sem.run_bind, Sem.run_pure, Result.andThen_ok, List.map_toArray, List.map_cons, List.map_nil, hs, hx, hrun]
  exact h v' w' h4 h5

theorem wpList_app {α : Type} (T : Ty α) {w : World} {ops : Array Oper} {rest : List Oper} {o : Oper} {a : Act} {Q : Exit → Act → World → Prop} (hgd : Region.wanted o (yielded ops a.tmps) = true) (s x : Operand) (t : TypeId)
    (ho : o.op = .call { callee := .builtin .append, args := #[s, x], argTypes := #[t, t] })
    (e : TypeId) (i : TypeInfo) (z : Value) (bytes : Nat) (ht : P.underlying t = some (.slice e)) (hi : P.info? e = some i) (hz : i.zero = some z)
    (hsize : i.size = T.size) (hby : i.bytes = bytes) (hzs : z.cells.size = T.size) (hsz : 0 < T.size)
    (S Sy S2 : Nat → Prop) (xs ys : List α) (v : Value) (hs : a.eval s = v) (hO : Own T e w S xs v) (A : Option Addr) (m c : Nat) (hx : a.eval x = .slice A m c) (hm : m = ys.length) (hy : RowAny T w Sy A ys)
    (h63 : xs.length + ys.length ≤ maxLen) (hbytes : (xs.length + ys.length) * bytes ≤ 140737488355328)
    (hSo : ∀ b, S b → Old w b) (hSy : ∀ b, Sy b → Old w b ∧ v.ownBlock ≠ some b) (h1 : ∀ b, S b → S2 b) (h2 : ∀ b, Sy b → S2 b) (h3 : S2 w.heap.size)
    (h : ∀ v' w', Own T e w' (fun b => S2 b ∧ Old w' b) (xs ++ ys) v' → w.grownBy w' v.ownBlock → wpList P ops Q rest (a.put o.dst v') w') : wpList P ops Q (o :: rest) a w :=
  BigFrame.wpList_want hgd fun _ hK => wp_app T s x t ho e i z bytes ht hi hz hsize hby hzs hsz S Sy S2 xs ys v hs hO A m c hx hm hy h63 hbytes hSo hSy h1 h2 h3 fun v' w' h4 h5 => hK _ _ (h v' w' h4 h5)
end

/-- The one-element row that append(s, x) makes of x first. -/
theorem row_one {α : Type} {T : Ty α} {w : World} {S : Nat → Prop} {x : α} {cs : List Value} (e : TypeId) (hr : T.rel w S x cs) (hS : ∀ b, S b → Old w b) :
    RowAny T (w.alloc (.cells cs.toArray e)) S (some ⟨w.heap.size, 0, none⟩) [x] := fun _ =>
  ⟨w.heap.size, 0, rfl, fun k hk => by
    obtain rfl : k = 0 := by simpa using hk
    refine ⟨cs, T.mono hr (fun b h => h) (fun b h => Below.heap_alloc _ _ _ (hS b h)), fun j u hu => ?_⟩
    simp only [Nat.zero_mul, Nat.zero_add]
    rw [(Blk.new w e cs.toArray).cell]
    simpa using hu⟩
theorem Own.nil_ {α : Type} {T : Ty α} {e : TypeId} {w : World} {S : Nat → Prop} : Own T e w S ([] : List α) (.slice none 0 0) := .inl ⟨rfl, rfl⟩
/-- An empty slice with room, newly made. -/
theorem Own.made {α : Type} {T : Ty α} {e : TypeId} (w : World) {S : Nat → Prop} (cur : Array Value) (cap : Nat) (hs : cur.size = cap * T.size) (hm : cap ≤ maxLen) (hS : S w.heap.size) :
    Own T e (w.alloc (.cells cur e)) S ([] : List α) (.slice (some ⟨w.heap.size, 0, none⟩) 0 cap) :=
  .inr ⟨_, cap, cur, fun _ => False, rfl, hS, Blk.new _ _ _, Nat.zero_le _, hm, hs, fun _ h => h.elim, RowAt.zero⟩
/-- What is owned stays so while other blocks are made. -/
theorem Own.below {α : Type} {T : Ty α} {e : TypeId} {w w' : World} {S : Nat → Prop} {xs : List α} {v : Value} (h : Own T e w S xs v) (hb : Below w.heap.size w w') (hS : ∀ b, S b → Old w b) : Own T e w' S xs v :=
  h.mono (fun _ h => h) fun b hb' => hb.block b (hS b hb')
theorem own_lt {α : Type} {T : Ty α} {e : TypeId} {w : World} {S : Nat → Prop} {xs : List α} {v : Value} {B : Nat} (h : Own T e w S xs v) (hS : ∀ b, S b → b < B) : ∀ k, v.ownBlock = some k → k < B := fun k hk => by
  rcases h with ⟨rfl, _⟩ | ⟨g, cap, cur, S', rfl, hg, _⟩
  · simp [Value.ownBlock] at hk
  · simp [Value.ownBlock] at hk; exact hk ▸ hS g hg
end Go.Proofs.YtjiobgfaohldhaaGreat
namespace Go.Proofs.YtjiobgfaohldhaaGreat
open Go.RowKit
set_option linter.unusedVariables false
set_option linter.unusedSimpArgs false

/-- Only block R, and what is new, has turned. -/
abbrev Gr (w w' : World) (R : Nat) : Prop := w.grownBy w' (some R)
theorem Gr.of_below {w w' : World} {R : Nat} (h : Below w.heap.size w w') : Gr w w' R := ⟨h.os, h.tape, h.output, h.size, fun i hi _ => h.block i hi⟩
/-- Only blocks of S may have changed; what is new is new. -/
structure Only (S : Nat → Prop) (w w' : World) : Prop where
  os : w'.os = w.os
  tape : w'.tape = w.tape
  output : w'.output = w.output
  size : w.heap.size ≤ w'.heap.size
  block : ∀ k, k < w.heap.size → ¬ S k → w'.heap[k]? = w.heap[k]?
theorem Only.refl (S : Nat → Prop) (w : World) : Only S w w := ⟨rfl, rfl, rfl, Nat.le_refl _, fun _ _ _ => rfl⟩
theorem Only.trans {S : Nat → Prop} {a b c : World} (h : Only S a b) (k : Only S b c) : Only S a c :=
  ⟨k.os.trans h.os, k.tape.trans h.tape, k.output.trans h.output, Nat.le_trans h.size k.size, fun i hi hs => (k.block i (Nat.lt_of_lt_of_le hi h.size) hs).trans (h.block i hi hs)⟩
theorem Only.mono {S S' : Nat → Prop} {a b : World} (h : Only S a b) (hs : ∀ k, S k → S' k) : Only S' a b := ⟨h.os, h.tape, h.output, h.size, fun i hi hn => h.block i hi fun e => hn (hs i e)⟩
theorem Only.of_below {S : Nat → Prop} {a b : World} (h : Below a.heap.size a b) : Only S a b := ⟨h.os, h.tape, h.output, h.size, fun i hi _ => h.block i hi⟩
theorem Only.setCell {S : Nat → Prop} {a b : World} (h : Only S a b) {p : Addr} (hp : S p.block) (u : Value) : Only S a (b.setCell p u) :=
  ⟨h.os, h.tape, h.output, by simpa [World.setCell] using h.size, fun i hi hn => (Below.heap_setCell _ _ _ _ (by rintro rfl; exact hn hp)).trans (h.block i hi hn)⟩
theorem below_only {S : Nat → Prop} {B : Nat} {a b c : World} (h : Below B a b) (k : Only S b c) (hB : B ≤ b.heap.size) (hS : ∀ i, S i → B ≤ i) : Below B a c :=
  h.trans ⟨k.os, k.tape, k.output, k.size, fun i hi => k.block i (Nat.lt_of_lt_of_le hi hB) fun e => by have := hS i e; omega⟩

/-- Rows keep their length and their element type. -/
def Shape (w w' : World) : Prop := ∀ g e cur, Blk w g e cur → ∃ cur', Blk w' g e cur' ∧ cur'.size = cur.size
theorem Shape.refl (w : World) : Shape w w := fun _ _ cur h => ⟨cur, h, rfl⟩
theorem Shape.trans {a b c : World} (h : Shape a b) (k : Shape b c) : Shape a c := fun g e cur hb => by
  obtain ⟨c1, h1, e1⟩ := h g e cur hb
  obtain ⟨c2, h2, e2⟩ := k g e c1 h1
  exact ⟨c2, h2, e2.trans e1⟩
theorem Shape.setCell (w : World) (g i : Nat) (u : Value) : Shape w (w.setCell ⟨g, i, none⟩ u) := fun g' e cur hb => by
  by_cases hg : g' = g
  · subst hg; exact ⟨_, hb.set_ i u, by simp⟩
  · exact ⟨cur, hb.far (p := ⟨g, i, none⟩) hg u, rfl⟩

/-- A slice that may be written: n places of element type e (one cell each), from the head of a block of S on. -/
def Room (w : World) (S : Nat → Prop) (e : TypeId) (A : Option Addr) (n : Nat) : Prop :=
  0 < n → ∃ g cur, A = some ⟨g, 0, none⟩ ∧ S g ∧ Blk w g e cur ∧ n ≤ cur.size
theorem Room.shape {w w' : World} {S : Nat → Prop} {e : TypeId} {A : Option Addr} {n : Nat} (h : Room w S e A n) (hs : Shape w w') : Room w' S e A n := fun hn => by
  obtain ⟨g, cur, rfl, hg, hb, hl⟩ := h hn
  obtain ⟨c', h', e'⟩ := hs g e cur hb
  exact ⟨g, c', rfl, hg, h', by omega⟩
theorem Room.keep {w w' : World} {S : Nat → Prop} {e : TypeId} {A : Option Addr} {n : Nat} (h : Room w S e A n) (hw : ∀ b, S b → w'.heap[b]? = w.heap[b]?) : Room w' S e A n := fun hn => by
  obtain ⟨g, cur, rfl, hg, hb, hl⟩ := h hn
  exact ⟨g, cur, rfl, hg, hb.of (hw g hg), hl⟩
theorem Own.room {e : TypeId} {w : World} {S : Nat → Prop} {xs : List Int} {A : Option Addr} {n c : Nat} (h : Own tInt e w S xs (.slice A n c)) : Room w S e A xs.length := fun hn => by
  rcases h with ⟨h, rfl⟩ | ⟨g, cap, cur, S', hv, hg, hB, h1, h2, h3, _⟩
  · simp at hn
  · injection hv with hA _ _
    refine ⟨g, cur, hA, hg, hB, ?_⟩
    rw [h3]; show xs.length ≤ cap * 1; omega
theorem Own.row {α : Type} {T : Ty α} {e : TypeId} {w : World} {S : Nat → Prop} {xs : List α} {A : Option Addr} {n c : Nat} (h : Own T e w S xs (.slice A n c)) : Row T w S A xs := by
  obtain ⟨A', c', hv, _, _, hR⟩ := h.sl
  injection hv with hA _ _
  subst hA
  exact hR
/-- The marks k, k+1, .. stand in a slice. -/
def MarksAt (w : World) (S : Nat → Prop) (A : Option Addr) (k : Int) (n : Nat) : Prop :=
  0 < n → ∃ g, A = some ⟨g, 0, none⟩ ∧ S g ∧ ∀ j, j < n → w.cell? ⟨g, j, none⟩ = some (.int .i64 (k + j))
theorem MarksAt.keep {w w' : World} {S : Nat → Prop} {A : Option Addr} {k : Int} {n : Nat} (h : MarksAt w S A k n) (hw : ∀ b, S b → w'.heap[b]? = w.heap[b]?) : MarksAt w' S A k n := fun hn => by
  obtain ⟨g, rfl, hg, hc⟩ := h hn
  exact ⟨g, rfl, hg, fun j hj => (World.cell?_of_block (hw g hg)).trans (hc j hj)⟩

set_option maxHeartbeats 400000 in
theorem markIntS (n : Nat) (k : Int) (A : Option Addr) (c : Nat) (w : World) (S : Nat → Prop) (hn : n ≤ 2097152) (h0 : 0 ≤ k) (h1 : k ≤ 4611686018427387904) (hR : Room w S 3 A n) :
    Calls Tryz.prog 44 #[.slice A n c, .int .i64 k] w fun e w' => e = .returned (.int .i64 (k + n)) ∧ Only (fun b => S b ∧ 0 < n ∧ ∃ a, A = some a ∧ a.block = b) w w' ∧ Shape w w' ∧ MarksAt w' S A k n := by
  go_enter Tryz.func44, Tryz.ntmps44
  go_wp2
  go_loopw [1, 5] (fun m i wr => ∃ j : Nat, j ≤ n ∧ i = .int .i64 j ∧ m = .int .i64 (k + j) ∧ Hid (Only (fun b => S b ∧ 0 < n ∧ ∃ a, A = some a ∧ a.block = b) w wr) ∧ Hid (Shape w wr) ∧ Hid (MarksAt wr S A k j)) (fun _ i _ => n - (intOf i).toNat)
  case atStart => exact ⟨0, Nat.zero_le _, rfl, by simp, Only.refl _ _, Shape.refl _, fun h => absurd h (by omega)⟩
  case round =>
    obtain ⟨j, hj, rfl, rfl, hO, hS, hM⟩ := hrel
    by_cases hlt : j < n
    · obtain ⟨g, cur, rfl, hg, hB, hsz⟩ := (hR.shape hS.out) (by omega)
      obtain ⟨⟨u0, k0⟩, f0⟩ := hB.there (i := j) (by omega)
      have HB := hide hB
      clear hR hB
      go_wp2
      go_roundw
      case rel =>
        refine ⟨j + 1, by omega, by go_num, by rw [show k + ((j + 1 : Nat) : Int) = k + j + 1 by omega], hO.out.setCell (p := ⟨g, j, none⟩) ⟨hg, by omega, _, rfl, rfl⟩ _, hS.out.trans (Shape.setCell _ _ _ _), fun _ => ⟨g, rfl, hg, fun i hi => ?_⟩⟩
        rw [(HB.out.set_ j _).cell]
        rcases Nat.lt_succ_iff_lt_or_eq.1 hi with h | rfl
        · obtain ⟨g', hA, _, hc⟩ := hM.out (by omega)
          have hgg : g' = g := by simpa using hA.symm
          subst hgg
          rw [Array.getElem?_setIfInBounds_ne (by omega), ← HB.out.cell]
          exact hc i h
        · rw [Array.getElem?_setIfInBounds, if_pos rfl, if_pos (by omega)]
      case measure => simp [intOf]; omega
    · obtain rfl : j = n := by omega
      clear hR
      go_wp2
      go_ret
      exact ⟨rfl, hO.out, hS.out, hM.out⟩
set_option maxHeartbeats 400000 in
theorem heldIntS (n : Nat) (k : Int) (A : Option Addr) (c : Nat) (w : World) (S : Nat → Prop) (hn : n ≤ 2097152) (h0 : 0 ≤ k) (h1 : k ≤ 4611686018427387904) (hM : MarksAt w S A k n) :
    Calls Tryz.prog 46 #[.slice A n c, .int .i64 k] w fun e w' => e = .returned (.int .i64 (k + n)) ∧ w = w' := by
  go_enter Tryz.func46, Tryz.ntmps46
  go_wp2
  go_loop [1, 5] (fun m i => ∃ j : Nat, j ≤ n ∧ i = .int .i64 j ∧ m = .int .i64 (k + j)) (fun _ i => n - (intOf i).toNat)
  case atStart => exact ⟨0, Nat.zero_le _, rfl, by simp⟩
  case round =>
    obtain ⟨j, hj, rfl, rfl⟩ := hrel
    by_cases hlt : j < n
    · obtain ⟨g, rfl, hg, hc⟩ := hM (by omega)
      have c0 := hc j hlt
      clear hc hM
      go_wp2
      go_round
      case rel => exact ⟨j + 1, by omega, by go_num, by rw [show k + ((j + 1 : Nat) : Int) = k + j + 1 by omega]⟩
      case measure => simp [intOf]; omega
    · obtain rfl : j = n := by omega
      clear hM
      go_wp2
      go_ret
      exact ⟨rfl, rfl⟩
theorem Only.of_grown {K : Nat → Prop} {w w' : World} {row : Option Nat} (h : w.grownBy w' row) (hr : ∀ i, row = some i → K i) : Only K w w' :=
  ⟨h.os, h.tape, h.output, h.size, fun i hi hn => h.block i hi fun e => hn (hr i e.symm)⟩
theorem Only.of_alloc {K : Nat → Prop} (w : World) (o : Obj) : Only K w (w.alloc o) := .of_below ((Below.refl _ _).alloc (Nat.le_refl _) o)
theorem Only.drewN {K : Nat → Prop} {a w : World} (h : Only K a w) (n : Nat) : Only K a (w.drewN n) := ⟨h.os, h.tape, h.output, h.size, h.block⟩
theorem Only.below {w w' : World} (h : Only (fun b => w.heap.size ≤ b) w w') : Below w.heap.size w w' := ⟨h.os, h.tape, h.output, h.size, fun i hi => h.block i hi (by omega)⟩
theorem Own.only {α : Type} {T : Ty α} {e : TypeId} {w w' : World} {S : Nat → Prop} {K : Nat → Prop} {xs : List α} {v : Value} (h : Own T e w S xs v) (k : Only K w w') (hS : ∀ b, S b → Old w b ∧ ¬ K b) : Own T e w' S xs v :=
  h.mono (fun _ h => h) fun b hb => k.block b (hS b hb).1 (hS b hb).2
theorem Own.onlyBelow {α : Type} {T : Ty α} {e : TypeId} {w w' : World} {K : Nat → Prop} {xs : List α} {v : Value} (h : Own T e w (fun b => K b ∧ Old w b) xs v) (g : Below w.heap.size w w') : Own T e w' (fun b => K b ∧ Old w' b) xs v :=
  h.mono (fun b hb => ⟨hb.1, Nat.lt_of_lt_of_le hb.2 g.size⟩) fun b hb => g.block b hb.2
theorem Own.owned {α : Type} {T : Ty α} {e : TypeId} {w : World} {S : Nat → Prop} {xs : List α} {v : Value} (h : Own T e w S xs v) : ∀ k, v.ownBlock = some k → S k := fun k hk => by
  rcases h with ⟨rfl, _⟩ | ⟨g, cap, cur, S', rfl, hg, _⟩
  · simp [Value.ownBlock] at hk
  · simp [Value.ownBlock] at hk; exact hk ▸ hg
theorem Row.anySpan {w : World} {S : Nat → Prop} {A : Option Addr} {xs : List Span} (h : Row tSpan w S A xs) : RowAny tSpan w (fun _ => False) A xs := fun hp => by
  obtain ⟨b, off, hA, _, hr⟩ := h hp
  exact ⟨b, off, hA, fun k hk => hr k hk⟩
theorem Row.anyOp {w : World} {S : Nat → Prop} {A : Option Addr} {xs : List Op} (h : Row tOp w S A xs) : RowAny tOp w (fun _ => False) A xs := fun hp => by
  obtain ⟨b, off, hA, _, hr⟩ := h hp
  exact ⟨b, off, hA, fun k hk => hr k hk⟩
/-- A new, empty slice of the call's own. -/
theorem Own.empty {α : Type} {T : Ty α} {e : TypeId} (w : World) (K : Nat → Prop) (hK : K w.heap.size) :
    Own T e (w.alloc (.cells #[] e)) (fun b => K b ∧ Old (w.alloc (.cells #[] e)) b) ([] : List α) (.slice (some ⟨w.heap.size, 0, none⟩) 0 0) :=
  Own.made w #[] 0 (by simp) (by simp [maxLen]) ⟨hK, by simp [Old]⟩
/-- A slice from place k on. -/
theorem Row.cut {α : Type} {T : Ty α} {w : World} {S : Nat → Prop} {A : Option Addr} {xs : List α} (h : Row T w S A xs) (k : Nat) : Row T w S (A.map (fun x => x.add (k * T.size))) (xs.drop k) := fun hp => by
  rw [List.length_drop] at hp
  obtain ⟨b, off, rfl, hb, hr⟩ := h (by omega)
  refine ⟨b, off + k * T.size, by rw [Option.map_some, Go.WideShapes.add_plain], hb, fun j hj => ?_⟩
  rw [List.length_drop] at hj
  obtain ⟨cs, hrel, hcs⟩ := hr (k + j) (by omega)
  refine ⟨cs, by rw [List.getElem_drop]; exact hrel, fun i u hu => ?_⟩
  have := hcs i u hu
  rwa [Nat.add_mul, ← Nat.add_assoc] at this
section
variable {P : Program}
theorem wpList_put {α : Type} (T : Ty α) {w : World} {ops : Array Oper} {rest : List Oper} {o : Oper} {a : Act} {Q : Exit → Act → World → Prop} (hgd : Region.wanted o (yielded ops a.tmps) = true) (s x : Operand) (t : TypeId)
    (ho : o.op = .call { callee := .builtin .append, args := #[s, x], argTypes := #[t, t] })
    (e : TypeId) (i : TypeInfo) (z : Value) (bytes : Nat) (ht : P.underlying t = some (.slice e)) (hi : P.info? e = some i) (hz : i.zero = some z)
    (hsize : i.size = T.size) (hby : i.bytes = bytes) (hzs : z.cells.size = T.size) (hsz : 0 < T.size)
    (K Sy : Nat → Prop) (xs : List α) (y : α) (cs : List Value) (v : Value) (hs : a.eval s = v) (hO : Own T e w (fun b => K b ∧ Old w b) xs v) (c : Nat) (hx : a.eval x = .slice (some ⟨w.heap.size, 0, none⟩) 1 c)
    (hy : T.rel w Sy y cs) (hSy : ∀ b, Sy b → K b ∧ Old w b ∧ v.ownBlock ≠ some b) (hK : ∀ b, w.heap.size ≤ b → K b)
    (h63 : xs.length + 1 ≤ maxLen) (hbytes : (xs.length + 1) * bytes ≤ 140737488355328)
    (h : ∀ v' w', Own T e w' (fun b => K b ∧ Old w' b) (xs ++ [y]) v' → Only K w w' → wpList P ops Q rest (a.put o.dst v') w') : wpList P ops Q (o :: rest) a (w.alloc (.cells cs.toArray e)) := by
  have hO1 := hO.mono (w' := w.alloc (.cells cs.toArray e)) (fun _ h => h) (fun b hb => Below.heap_alloc _ _ _ hb.2)
  refine wpList_app T hgd s x t ho e i z bytes ht hi hz hsize hby hzs hsz (fun b => K b ∧ Old w b) Sy K xs [y] v hs hO1 _ 1 c hx rfl (row_one e hy (fun b hb => (hSy b hb).2.1)) h63 hbytes
    (fun b hb => Nat.lt_of_lt_of_le hb.2 (by simp)) (fun b hb => ⟨Nat.lt_of_lt_of_le (hSy b hb).2.1 (by simp), (hSy b hb).2.2⟩) (fun b hb => hb.1) (fun b hb => (hSy b hb).1) (hK _ (by simp)) (fun v' w' h1 h2 => h v' w' h1 ?_)
  exact (Only.of_alloc w _).trans (Only.of_grown h2 fun i hi => (hO.owned i hi).1)
theorem wpList_cat {α : Type} (T : Ty α) {w : World} {ops : Array Oper} {rest : List Oper} {o : Oper} {a : Act} {Q : Exit → Act → World → Prop} (hgd : Region.wanted o (yielded ops a.tmps) = true) (s x : Operand) (t : TypeId)
    (ho : o.op = .call { callee := .builtin .append, args := #[s, x], argTypes := #[t, t] })
    (e : TypeId) (i : TypeInfo) (z : Value) (bytes : Nat) (ht : P.underlying t = some (.slice e)) (hi : P.info? e = some i) (hz : i.zero = some z)
    (hsize : i.size = T.size) (hby : i.bytes = bytes) (hzs : z.cells.size = T.size) (hsz : 0 < T.size)
    (K Sy : Nat → Prop) (xs ys : List α) (v : Value) (hs : a.eval s = v) (hO : Own T e w (fun b => K b ∧ Old w b) xs v) (A : Option Addr) (m c : Nat) (hx : a.eval x = .slice A m c) (hm : m = ys.length)
    (hy : RowAny T w Sy A ys) (hSy : ∀ b, Sy b → K b ∧ Old w b ∧ v.ownBlock ≠ some b) (hK : ∀ b, w.heap.size ≤ b → K b)
    (h63 : xs.length + ys.length ≤ maxLen) (hbytes : (xs.length + ys.length) * bytes ≤ 140737488355328)
    (h : ∀ v' w', Own T e w' (fun b => K b ∧ Old w' b) (xs ++ ys) v' → Only K w w' → wpList P ops Q rest (a.put o.dst v') w') : wpList P ops Q (o :: rest) a w :=
  wpList_app T hgd s x t ho e i z bytes ht hi hz hsize hby hzs hsz (fun b => K b ∧ Old w b) Sy K xs ys v hs hO A m c hx hm hy h63 hbytes
    (fun b hb => hb.2) (fun b hb => ⟨(hSy b hb).2.1, (hSy b hb).2.2⟩) (fun b hb => hb.1) (fun b hb => (hSy b hb).1) (hK _ (Nat.le_refl _))
    (fun v' w' h1 h2 => h v' w' h1 (Only.of_grown h2 fun i hi => (hO.owned i hi).1))
end
end Go.Proofs.YtjiobgfaohldhaaGreat
namespace Go.Proofs.YtjiobgfaohldhaaGreat
open Go.RowKit
set_option linter.unusedVariables false
set_option linter.unusedSimpArgs false

theorem l1In (n lo hi : Int) (w : World) : Calls Tryz.prog 96 #[.int .i64 n, .int .i64 lo, .int .i64 hi] w fun e w' => e = .returned (.bool (inR n lo hi)) ∧ w = w' := by
  go_enter Tryz.func96, Tryz.ntmps96
  go_wp2
  all_goals (go_ret; refine ⟨ret_bool ?_, rfl⟩; simp [inR]; try omega)
theorem within (n lo hi : Int) (w : World) : Calls Tryz.prog 114 #[.int .i64 n, .int .i64 lo, .int .i64 hi] w fun e w' => e = .returned (.bool (inR n lo hi)) ∧ w = w' := by
  go_enter Tryz.func114, Tryz.ntmps114
  go_wp2
  all_goals (go_ret; refine ⟨ret_bool ?_, rfl⟩; simp [inR]; try omega)
theorem valueOk (n : Int) (w : World) : Calls Tryz.prog 151 #[.int .i64 n] w fun e w' => e = .returned (.bool (inR n 0 99)) ∧ w = w' := by
  go_enter Tryz.func151, Tryz.ntmps151
  go_wp2_with (go_at_call 114; refine (within _ _ _ _).mono ?_; rintro e w' ⟨rfl, rfl⟩)
  go_ret
  exact ⟨rfl, rfl⟩
theorem keyOk (n : Int) (w : World) : Calls Tryz.prog 144 #[.int .i64 n] w fun e w' => e = .returned (.bool (inR n 0 2)) ∧ w = w' := by
  go_enter Tryz.func144, Tryz.ntmps144
  go_wp2_with (go_at_call 114; refine (within _ _ _ _).mono ?_; rintro e w' ⟨rfl, rfl⟩)
  go_ret
  exact ⟨rfl, rfl⟩
theorem sessionOk (n : Int) (w : World) : Calls Tryz.prog 133 #[.int .i64 n] w fun e w' => e = .returned (.bool (inR n 0 3)) ∧ w = w' := by
  go_enter Tryz.func133, Tryz.ntmps133
  go_wp2_with (go_at_call 114; refine (within _ _ _ _).mono ?_; rintro e w' ⟨rfl, rfl⟩)
  go_ret
  exact ⟨rfl, rfl⟩
def opOk (o : Op) : Bool := (o.Kind == 1 || o.Kind == 2) && inR o.Key 0 2 && inR o.Value 0 99 && !(o.Kind == 2 && o.Value == 0)
theorem reads_any (o : Op) (w : World) : Calls Tryz.prog 119 #[.agg #[.int .i64 o.Kind, .int .i64 o.Key, .int .i64 o.Value]] w fun e w' => e = .returned (.bool (o.Kind == 1)) ∧ Below w.heap.size w w' := by
  go_enter Tryz.func119, Tryz.ntmps119
  go_wp2
  go_ret
  exact ⟨rfl, (Below.refl _ _).alloc (Nat.le_refl _) _⟩
theorem writes_any (o : Op) (w : World) : Calls Tryz.prog 113 #[.agg #[.int .i64 o.Kind, .int .i64 o.Key, .int .i64 o.Value]] w fun e w' => e = .returned (.bool (o.Kind == 2)) ∧ Below w.heap.size w w' := by
  go_enter Tryz.func113, Tryz.ntmps113
  go_wp2
  go_ret
  exact ⟨rfl, (Below.refl _ _).alloc (Nat.le_refl _) _⟩

set_option maxRecDepth 10000 in
set_option maxHeartbeats 1000000 in
theorem opValid_any (o : Op) (w : World) : Calls Tryz.prog 136 #[.agg #[.int .i64 o.Kind, .int .i64 o.Key, .int .i64 o.Value]] w fun e w' => e = .returned (.bool (opOk o)) ∧ Below w.heap.size w w' := by
  have HR := hide (fun W => reads_any o W)
  have HW := hide (fun W => writes_any o W)
  have HB := hide ((Below.refl _ w).alloc (Nat.le_refl _) (.cells #[.int .i64 o.Kind, .int .i64 o.Key, .int .i64 o.Value] 82))
  have HO := hide (show opOk o = ((o.Kind == 1 || o.Kind == 2) && inR o.Key 0 2 && inR o.Value 0 99 && !(o.Kind == 2 && o.Value == 0)) from rfl)
  cases q1 : (o.Kind == 1) with
  | false =>
    cases q2 : (o.Kind == 2) with
    | false =>
      rw [q1, q2] at HO
      rw [q1] at HR; rw [q2] at HW
      clear q1 q2
      go_enter Tryz.func136, Tryz.ntmps136
      go_wp2_with (first | (go_at_call 119; refine (HR.out _).mono ?_; rintro e w1 ⟨rfl, hb1⟩; have HB := hide (HB.out.trans (hb1.mono HB.out.size)); obtain ⟨hc1, hf1⟩ := bcell hb1; have hz1 : w.heap.size < w1.heap.size := (by have := hb1.size; simp at this; omega); clear hb1) | (go_at_call 113; refine (HW.out _).mono ?_; rintro e w2 ⟨rfl, hb2⟩; have HB := hide (HB.out.trans (hb2.mono HB.out.size)); obtain ⟨hc2, hf2⟩ := bcell hb2; have hz2 : w.heap.size < w2.heap.size := (by have := hb2.size; omega); clear hb2) | (go_at_call 144; refine (keyOk _ _).mono ?_; rintro e w' ⟨rfl, rfl⟩) | (go_at_call 151; refine (valueOk _ _).mono ?_; rintro e w' ⟨rfl, rfl⟩))
      go_ret
      exact ⟨ret_bool (by rw [HO.out]; rfl), HB.out⟩
    | true =>
      rw [q1, q2] at HO
      rw [q1] at HR; rw [q2] at HW
      clear q1 q2
      cases q3 : inR o.Key 0 2 <;> cases q4 : inR o.Value 0 99 <;> cases q5 : (o.Value == 0) <;> rw [q3, q4, q5] at HO
      all_goals
        go_enter Tryz.func136, Tryz.ntmps136
        go_wp2_with (first | (go_at_call 119; refine (HR.out _).mono ?_; rintro e w1 ⟨rfl, hb1⟩; have HB := hide (HB.out.trans (hb1.mono HB.out.size)); obtain ⟨hc1, hf1⟩ := bcell hb1; have hz1 : w.heap.size < w1.heap.size := (by have := hb1.size; simp at this; omega); clear hb1) | (go_at_call 113; refine (HW.out _).mono ?_; rintro e w2 ⟨rfl, hb2⟩; have HB := hide (HB.out.trans (hb2.mono HB.out.size)); obtain ⟨hc2, hf2⟩ := bcell hb2; have hz2 : w.heap.size < w2.heap.size := (by have := hb2.size; omega); clear hb2) | (go_at_call 144; refine (keyOk _ _).mono ?_; rintro e w' ⟨rfl, rfl⟩) | (go_at_call 151; refine (valueOk _ _).mono ?_; rintro e w' ⟨rfl, rfl⟩))
        go_ret
        exact ⟨ret_bool (by rw [HO.out]; rfl), HB.out⟩
  | true =>
    have q2 : (o.Kind == 2) = false := by simp at q1 ⊢; omega
    rw [q1, q2] at HO
    rw [q1] at HR; rw [q2] at HW
    clear q1 q2
    cases q3 : inR o.Key 0 2 <;> cases q4 : inR o.Value 0 99 <;> rw [q3, q4] at HO
    all_goals
      go_enter Tryz.func136, Tryz.ntmps136
      go_wp2_with (first | (go_at_call 119; refine (HR.out _).mono ?_; rintro e w1 ⟨rfl, hb1⟩; have HB := hide (HB.out.trans (hb1.mono HB.out.size)); obtain ⟨hc1, hf1⟩ := bcell hb1; have hz1 : w.heap.size < w1.heap.size := (by have := hb1.size; simp at this; omega); clear hb1) | (go_at_call 113; refine (HW.out _).mono ?_; rintro e w2 ⟨rfl, hb2⟩; have HB := hide (HB.out.trans (hb2.mono HB.out.size)); obtain ⟨hc2, hf2⟩ := bcell hb2; have hz2 : w.heap.size < w2.heap.size := (by have := hb2.size; omega); clear hb2) | (go_at_call 144; refine (keyOk _ _).mono ?_; rintro e w' ⟨rfl, rfl⟩) | (go_at_call 151; refine (valueOk _ _).mono ?_; rintro e w' ⟨rfl, rfl⟩))
      go_ret
      exact ⟨ret_bool (by rw [HO.out]; rfl), HB.out⟩
end Go.Proofs.YtjiobgfaohldhaaGreat
