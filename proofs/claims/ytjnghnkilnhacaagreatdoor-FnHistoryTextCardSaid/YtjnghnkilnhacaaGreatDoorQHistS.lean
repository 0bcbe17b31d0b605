/- append onto a slice of the call's own, in the words of Own and Row. Over any program. Ranges of numbers: what the small functions of the program and of the reference answer. The validity of an operation. The reference's OpValid, TxnValid, l2Writes, HistoryValid. -/
import Derived.Test.YtjnghnkilnhacaaGreatDoorQElems
import Derived.Test.YtjnghnkilnhacaaGreatDoorProg
import Derived.BigFrame
import Derived.Deep.RegionHeld3
import Derived.WalkLawsBesides
import Derived.IntWalk
namespace Go.Proofs.YtjnghnkilnhacaaGreatDoor
open Go.RowKit

/-- The cells of a row that is read whole. -/
theorem cells_of_row {α : Type} {T : Ty α} {w : World} {S : Nat → Prop} {b off : Nat} : ∀ {xs : List α}, RowAt T w S b off xs →
    ∃ cells : List Value, cells.length = xs.length * T.size ∧ (∀ j u, cells[j]? = some u → w.cell? ⟨b, off + j, none⟩ = some u) ∧ (∀ u ∈ cells, u.oneCell' = true) ∧
      ∀ k (h : k < xs.length), T.rel w S xs[k] ((cells.drop (k * T.size)).take T.size) := by
  intro xs
  induction xs generalizing off with
  | nil => intro _; exact ⟨[], by simp, fun j u h => by simp at h, fun u h => by simp at h, fun k h => absurd h (by simp)⟩
  | cons x xs ih =>
    intro h
    obtain ⟨cs, hr, hcs⟩ := h 0 (by simp)
    obtain ⟨cells, hl, hc, h1, hrel⟩ := ih (off := off + T.size) (fun k hk => by
      obtain ⟨cs', hr', hcs'⟩ := h (k + 1) (by simpa using hk)
      refine ⟨cs', by simpa using hr', fun j u hu => ?_⟩
      have := hcs' j u hu
      rwa [Nat.add_mul, Nat.one_mul, show off + (k * T.size + T.size) + j = off + T.size + k * T.size + j by omega] at this)
    have hlen := T.len hr
    refine ⟨cs ++ cells, ?_, fun j u hu => ?_, fun u hu => ?_, fun k hk => ?_⟩
    · rw [List.length_append, hlen, hl, List.length_cons, Nat.add_mul]; omega
    · rcases Nat.lt_or_ge j cs.length with hj | hj
      · rw [List.getElem?_append_left hj] at hu
        have := hcs j u hu
        simpa using this
      · rw [List.getElem?_append_right hj, hlen] at hu
        have := hc (j - T.size) u hu
        rwa [show off + T.size + (j - T.size) = off + j by omega] at this
    · rcases List.mem_append.1 hu with h' | h'
      · exact T.one hr u h'
      · exact h1 u h'
    · cases k with
      | zero =>
        have e : (cs ++ cells).take T.size = cs := by rw [← hlen]; exact List.take_left
        simpa [e] using hr
      | succ k =>
        have e : (cs ++ cells).drop ((k + 1) * T.size) = cells.drop (k * T.size) := by
          rw [Nat.add_mul, Nat.one_mul, Nat.add_comm, ← List.drop_drop, ← hlen, List.drop_left]
        rw [e]
        simpa using hrel k (by simpa using hk)

theorem own_of_cells {α : Type} {T : Ty α} {e : TypeId} {w : World} {S S' : Nat → Prop} {xs : List α} {v : Value} {cells : List Value} (hown : w.ownsRow 0 e T.size v xs.length cells)
    (hrel : ∀ k (h : k < xs.length), T.rel w S' xs[k] ((cells.drop (k * T.size)).take T.size)) (hS : ∀ g, v.ownBlock = some g → S g) (hS' : ∀ b, S' b → S b ∧ v.ownBlock ≠ some b) : Own T e w S xs v := by
  obtain ⟨hl, h⟩ := hown
  rcases h with ⟨rfl, hn⟩ | ⟨g, cap, cur, rfl, _, hB, hnc, hcm, hcs, htake⟩
  · exact .inl ⟨rfl, List.eq_nil_of_length_eq_zero hn⟩
  · refine .inr ⟨g, cap, cur, S', rfl, hS g rfl, hB, hnc, hcm, hcs, fun b hb => ⟨(hS' b hb).1, fun e => (hS' b hb).2 (by simp [Value.ownBlock, e])⟩, fun k hk => ⟨_, hrel k hk, fun j u hu => ?_⟩⟩
    have hj : j < T.size := by
      rw [← T.len (hrel k hk)]
      exact (List.getElem?_eq_some_iff.1 hu).1
    have hB' : Blk w g e cur := hB
    rw [hB'.cell]
    rw [List.getElem?_take, if_pos hj, List.getElem?_drop, ← htake, List.getElem?_take] at hu
    split at hu
    · rw [Nat.zero_add]
      simpa using hu
    · cases hu

theorem cells_of_own {α : Type} {T : Ty α} {e : TypeId} {w : World} {S : Nat → Prop} {xs : List α} {v : Value} (h : Own T e w S xs v) :
    ∃ cells S', w.ownsRow 0 e T.size v xs.length cells ∧ (∀ k (h : k < xs.length), T.rel w S' xs[k] ((cells.drop (k * T.size)).take T.size)) ∧ (∀ g, v.ownBlock = some g → S g ∧ Old w g) ∧ (∀ b, S' b → S b ∧ v.ownBlock ≠ some b) := by
  rcases h with ⟨rfl, rfl⟩ | ⟨g, cap, cur, S', rfl, hg, hB, h1, h2, h3, h4, h5⟩
  · exact ⟨[], fun _ => False, World.ownsRow_nil _ _ _ _, fun k h => absurd h (by simp), fun g h => by simp [Value.ownBlock] at h, fun b h => h.elim⟩
  · obtain ⟨cells, hl, hc, _, hrel⟩ := cells_of_row h5
    refine ⟨cells, S', ⟨hl, .inr ⟨g, cap, cur, rfl, Nat.zero_le _, hB, h1, h2, h3, ?_⟩⟩, hrel, fun g' hg' => by simp [Value.ownBlock] at hg'; subst hg'; exact ⟨hg, hB.lt⟩, fun b hb => ⟨(h4 b hb).1, fun e => (h4 b hb).2 (by simpa [Value.ownBlock] using e.symm)⟩⟩
    have hle : xs.length * T.size ≤ cap * T.size := Nat.mul_le_mul_right _ h1
    apply List.ext_getElem?
    intro j
    rw [List.getElem?_take]
    split
    · rename_i hj
      rw [List.getElem?_eq_getElem (by omega : j < cells.length)]
      have := hc j _ (List.getElem?_eq_getElem (by omega))
      rw [hB.cell, Nat.zero_add] at this
      simpa using this
    · rename_i hj
      rw [List.getElem?_eq_none (by omega)]

/-- A row that is read now, wherever it lies; what its elements lead to is in S. -/
def RowAny {α : Type} (T : Ty α) (w : World) (S : Nat → Prop) (A : Option Addr) (xs : List α) : Prop := 0 < xs.length → ∃ b off, A = some ⟨b, off, none⟩ ∧ RowAt T w S b off xs
theorem Row.any {α : Type} {T : Ty α} {w : World} {S : Nat → Prop} {A : Option Addr} {xs : List α} (h : Row T w S A xs) : RowAny T w S A xs := fun hp => by
  obtain ⟨b, off, hA, _, hr⟩ := h hp
  exact ⟨b, off, hA, hr⟩
section
variable {P : Program}
/-- append(s, x...): s of the call's own, x any row. -/
theorem run_app {α : Type} (T : Ty α) (w : World) (t ty e : TypeId) (i : TypeInfo) (z : Value) (bytes : Nat) (ht : P.underlying t = some (.slice e)) (hi : P.info? e = some i) (hz : i.zero = some z)
    (hsize : i.size = T.size) (hby : i.bytes = bytes) (hzs : z.cells.size = T.size) (hsz : 0 < T.size)
    (S Sy S2 : Nat → Prop) (xs ys : List α) (v : Value) (hO : Own T e w S xs v) (A : Option Addr) (c : Nat) (hy : RowAny T w Sy A ys)
    (h63 : xs.length + ys.length ≤ maxLen) (hbytes : (xs.length + ys.length) * bytes ≤ 140737488355328)
    (hSo : ∀ b, S b → Old w b) (hSy : ∀ b, Sy b → Old w b ∧ v.ownBlock ≠ some b) (h1 : ∀ b, S b → S2 b) (h2 : ∀ b, Sy b → S2 b) (h3 : S2 w.heap.size) :
    ∃ v' w', (Builtin.append_ #[t, t] ty #[v, .slice A ys.length c]).run P w = .ok v' w' ∧ Own T e w' (fun b => S2 b ∧ Old w' b) (xs ++ ys) v' ∧ w.grownBy w' v.ownBlock := by
  by_cases hp : 0 < ys.length
  · obtain ⟨b, off, rfl, hrow⟩ := hy hp
    obtain ⟨news, hnl, hnc, hn1, hnrel⟩ := cells_of_row hrow
    obtain ⟨cells, S', hown, hrel, hg, hS'⟩ := cells_of_own hO
    obtain ⟨v', w', hrun, hown', hgrow, _, hat⟩ := run_append_own_at (P := P) w 0 t ty e i z T.size bytes ht hi hz hsize hby hzs hsz v xs.length cells hown ⟨b, off, none⟩ ys.length c news hnl
      (fun j u hu => by rw [Go.WideShapes.add_plain]; exact hnc j u hu) hn1 h63 hbytes (Nat.zero_le _)
    refine ⟨v', w', hrun, ?_, hgrow⟩
    have hcl := hown.1
    have hne : ∀ x, S' x ∨ Sy x → w'.heap[x]? = w.heap[x]? := fun x hx => by
      rcases hx with hx | hx
      · exact hgrow.block x (hSo x (hS' x hx).1) (fun e => (hS' x hx).2 e.symm)
      · exact hgrow.block x (hSy x hx).1 (fun e => (hSy x hx).2 e.symm)
    refine own_of_cells (S' := fun x => S' x ∨ Sy x) (by rw [List.length_append]; exact hown') (fun k hk => ?_) (fun g hg' => ?_) (fun x hx => ?_)
    · rw [List.length_append] at hk
      rcases Nat.lt_or_ge k xs.length with hlt | hge
      · have e1 : (xs ++ ys)[k]'(by rw [List.length_append]; omega) = xs[k] := List.getElem_append_left hlt
        have hk1 : k * T.size + T.size ≤ cells.length := by
          have : (k + 1) * T.size ≤ xs.length * T.size := Nat.mul_le_mul_right _ hlt
          rw [Nat.add_mul] at this; omega
        have e2 : ((cells ++ news).drop (k * T.size)).take T.size = (cells.drop (k * T.size)).take T.size := by
          rw [List.drop_append_of_le_length (by omega), List.take_append_of_le_length (by rw [List.length_drop]; omega)]
        rw [e1, e2]
        exact T.mono (hrel k hlt) (fun _ h => .inl h) (fun x hx => hne x (.inl hx))
      · have e1 : (xs ++ ys)[k]'(by rw [List.length_append]; omega) = ys[k - xs.length]'(by omega) := List.getElem_append_right hge
        have hk1 : xs.length * T.size ≤ k * T.size := Nat.mul_le_mul_right _ hge
        have e2 : (cells ++ news).drop (k * T.size) = news.drop ((k - xs.length) * T.size) := by
          rw [List.drop_append, List.drop_eq_nil_of_le (by omega), List.nil_append, hcl, Nat.sub_mul]
        rw [e1, e2]
        exact T.mono (hnrel _ (by omega)) (fun _ h => .inr h) (fun x hx => hne x (.inr hx))
    · have hlt := (hown'.lt g hg').2
      refine ⟨?_, hlt⟩
      rcases hat with e | e
      · rw [e] at hg'; exact h1 _ (hg g hg').1
      · rw [e] at hg'; simp at hg'; exact hg' ▸ h3
    · have hx2 : S2 x := by
        rcases hx with hx | hx
        · exact h1 _ (hS' x hx).1
        · exact h2 _ hx
      have hold : Old w x := by
        rcases hx with hx | hx
        · exact hSo x (hS' x hx).1
        · exact (hSy x hx).1
      refine ⟨⟨hx2, Nat.lt_of_lt_of_le hold hgrow.size⟩, ?_⟩
      rcases hat with e | e
      · rw [e]
        rcases hx with hx | hx
        · exact (hS' x hx).2
        · exact (hSy x hx).2
      · rw [e]
        intro h
        simp at h
        subst h
        exact absurd hold (Nat.lt_irrefl _)
  · have hnil : ys = [] := List.eq_nil_of_length_eq_zero (by omega)
    subst hnil
    have hO2 : Own T e w (fun b => S2 b ∧ Old w b) xs v := hO.mono (fun b h => ⟨h1 b h, hSo b h⟩) (fun _ _ => rfl)
    refine ⟨v, w, ?_, by simpa using hO2, World.grownBy.refl w _⟩
    rcases hO with ⟨rfl, rfl⟩ | ⟨g, cap, cur, S', rfl, hg, hB, hh1, _⟩
    · cases A <;> simp [Builtin.append_, run_underlying ht, sizeOf, typeInfo, hi, Builtin.lenOf, Builtin.firstCells, loadCells, loadCellsFrom]
    · cases A <;> simp [Builtin.append_, run_underlying ht, sizeOf, typeInfo, hi, Builtin.lenOf, Builtin.firstCells, hh1, storeCells, loadCells, loadCellsFrom]

theorem wp_app {α : Type} (T : Ty α) {w : World} {o : Oper} {a : Act} {K : Act → World → Prop} {Q : Exit → Act → World → Prop} (s x : Operand) (t : TypeId)
    (ho : o.op = .call { callee := .builtin .append, args := #[s, x], argTypes := #[t, t] })
    (e : TypeId) (i : TypeInfo) (z : Value) (bytes : Nat) (ht : P.underlying t = some (.slice e)) (hi : P.info? e = some i) (hz : i.zero = some z)
    (hsize : i.size = T.size) (hby : i.bytes = bytes) (hzs : z.cells.size = T.size) (hsz : 0 < T.size)
    (S Sy S2 : Nat → Prop) (xs ys : List α) (v : Value) (hs : a.eval s = v) (hO : Own T e w S xs v) (A : Option Addr) (m c : Nat) (hx : a.eval x = .slice A m c) (hm : m = ys.length) (hy : RowAny T w Sy A ys)
    (h63 : xs.length + ys.length ≤ maxLen) (hbytes : (xs.length + ys.length) * bytes ≤ 140737488355328)
    (hSo : ∀ b, S b → Old w b) (hSy : ∀ b, Sy b → Old w b ∧ v.ownBlock ≠ some b) (h1 : ∀ b, S b → S2 b) (h2 : ∀ b, Sy b → S2 b) (h3 : S2 w.heap.size)
    (h : ∀ v' w', Own T e w' (fun b => S2 b ∧ Old w' b) (xs ++ ys) v' → w.grownBy w' v.ownBlock → K (a.put o.dst v') w') : o.wp P a w K Q := by
  subst hm
  obtain ⟨v', w', hrun, h4, h5⟩ := run_app (P := P) T w t o.type e i z bytes ht hi hz hsize hby hzs hsz S Sy S2 xs ys v hO A c hy h63 hbytes hSo hSy h1 h2 h3
  unfold Oper.wp execOp
  simp only [ho, resolve, invoke, builtin, Sem.run_bind, Sem.run_pure, Result.andThen_ok, List.map_toArray, List.map_cons, List.map_nil, hs, hx, hrun]
  exact h v' w' h4 h5

theorem wpList_app {α : Type} (T : Ty α) {w : World} {ops : Array Oper} {rest : List Oper} {o : Oper} {a : Act} {Q : Exit → Act → World → Prop} (hgd : Region.wanted o (yielded ops a.tmps) = true) (s x : Operand) (t : TypeId)
    (ho : o.op = .call { callee := .builtin .append, args := #[s, x], argTypes := #[t, t] })
    (e : TypeId) (i : TypeInfo) (z : Value) (bytes : Nat) (ht : P.underlying t = some (.slice e)) (hi : P.info? e = some i) (hz : i.zero = some z)
    (hsize : i.size = T.size) (hby : i.bytes = bytes) (hzs : z.cells.size = T.size) (hsz : 0 < T.size)
    (S Sy S2 : Nat → Prop) (xs ys : List α) (v : Value) (hs : a.eval s = v) (hO : Own T e w S xs v) (A : Option Addr) (m c : Nat) (hx : a.eval x = .slice A m c) (hm : m = ys.length) (hy : RowAny T w Sy A ys)
    (h63 : xs.length + ys.length ≤ maxLen) (hbytes : (xs.length + ys.length) * bytes ≤ 140737488355328)
    (hSo : ∀ b, S b → Old w b) (hSy : ∀ b, Sy b → Old w b ∧ v.ownBlock ≠ some b) (h1 : ∀ b, S b → S2 b) (h2 : ∀ b, Sy b → S2 b) (h3 : S2 w.heap.size)
    (h : ∀ v' w', Own T e w' (fun b => S2 b ∧ Old w' b) (xs ++ ys) v' → w.grownBy w' v.ownBlock → wpList P ops Q rest (a.put o.dst v') w') : wpList P ops Q (o :: rest) a w :=
  BigFrame.wpList_want hgd fun _ hK => wp_app T s x t ho e i z bytes ht hi hz hsize hby hzs hsz S Sy S2 xs ys v hs hO A m c hx hm hy h63 hbytes hSo hSy h1 h2 h3 fun v' w' h4 h5 => hK _ _ (h v' w' h4 h5)
end

/-- The one-element row that append(s, x) makes of x first. -/
theorem row_one {α : Type} {T : Ty α} {w : World} {S : Nat → Prop} {x : α} {cs : List Value} (e : TypeId) (hr : T.rel w S x cs) (hS : ∀ b, S b → Old w b) :
    RowAny T (w.alloc (.cells cs.toArray e)) S (some ⟨w.heap.size, 0, none⟩) [x] := fun _ =>
  ⟨w.heap.size, 0, rfl, fun k hk => by
    obtain rfl : k = 0 := by simpa using hk
    refine ⟨cs, T.mono hr (fun b h => h) (fun b h => Below.heap_alloc _ _ _ (hS b h)), fun j u hu => ?_⟩
    simp only [Nat.zero_mul, Nat.zero_add]
    rw [(Blk.new w e cs.toArray).cell]
    simpa using hu⟩
theorem Own.nil_ {α : Type} {T : Ty α} {e : TypeId} {w : World} {S : Nat → Prop} : Own T e w S ([] : List α) (.slice none 0 0) := .inl ⟨rfl, rfl⟩
/-- An empty slice with room, newly made. -/
theorem Own.made {α : Type} {T : Ty α} {e : TypeId} (w : World) {S : Nat → Prop} (cur : Array Value) (cap : Nat) (hs : cur.size = cap * T.size) (hm : cap ≤ maxLen) (hS : S w.heap.size) :
    Own T e (w.alloc (.cells cur e)) S ([] : List α) (.slice (some ⟨w.heap.size, 0, none⟩) 0 cap) :=
  .inr ⟨_, cap, cur, fun _ => False, rfl, hS, Blk.new _ _ _, Nat.zero_le _, hm, hs, fun _ h => h.elim, RowAt.zero⟩
/-- What is owned stays so while other blocks are made. -/
theorem Own.below {α : Type} {T : Ty α} {e : TypeId} {w w' : World} {S : Nat → Prop} {xs : List α} {v : Value} (h : Own T e w S xs v) (hb : Below w.heap.size w w') (hS : ∀ b, S b → Old w b) : Own T e w' S xs v :=
  h.mono (fun _ h => h) fun b hb' => hb.block b (hS b hb')
end Go.Proofs.YtjnghnkilnhacaaGreatDoor
namespace Go.Proofs.YtjnghnkilnhacaaGreatDoor
open Go.RowKit
set_option linter.unusedVariables false
set_option linter.unusedSimpArgs false

theorem l1In (n lo hi : Int) (w : World) : Calls Tryz.prog 49 #[.int .i64 n, .int .i64 lo, .int .i64 hi] w fun e w' => e = .returned (.bool (inR n lo hi)) ∧ w = w' := by
  go_enter Tryz.func49, Tryz.ntmps49
  go_wp2
  all_goals (go_ret; refine ⟨ret_bool ?_, rfl⟩; simp [inR]; try omega)
theorem within (n lo hi : Int) (w : World) : Calls Tryz.prog 83 #[.int .i64 n, .int .i64 lo, .int .i64 hi] w fun e w' => e = .returned (.bool (inR n lo hi)) ∧ w = w' := by
  go_enter Tryz.func83, Tryz.ntmps83
  go_wp2
  all_goals (go_ret; refine ⟨ret_bool ?_, rfl⟩; simp [inR]; try omega)
theorem valueOk (n : Int) (w : World) : Calls Tryz.prog 73 #[.int .i64 n] w fun e w' => e = .returned (.bool (inR n 0 99)) ∧ w = w' := by
  go_enter Tryz.func73, Tryz.ntmps73
  go_wp2_with (go_at_call 83; refine (within _ _ _ _).mono ?_; rintro e w' ⟨rfl, rfl⟩)
  go_ret
  exact ⟨rfl, rfl⟩
theorem keyOk (n : Int) (w : World) : Calls Tryz.prog 72 #[.int .i64 n] w fun e w' => e = .returned (.bool (inR n 0 2)) ∧ w = w' := by
  go_enter Tryz.func72, Tryz.ntmps72
  go_wp2_with (go_at_call 83; refine (within _ _ _ _).mono ?_; rintro e w' ⟨rfl, rfl⟩)
  go_ret
  exact ⟨rfl, rfl⟩
theorem sessionOk (n : Int) (w : World) : Calls Tryz.prog 64 #[.int .i64 n] w fun e w' => e = .returned (.bool (inR n 0 3)) ∧ w = w' := by
  go_enter Tryz.func64, Tryz.ntmps64
  go_wp2_with (go_at_call 83; refine (within _ _ _ _).mono ?_; rintro e w' ⟨rfl, rfl⟩)
  go_ret
  exact ⟨rfl, rfl⟩
def opOk (o : Op) : Bool := (o.Kind == 1 || o.Kind == 2) && inR o.Key 0 2 && inR o.Value 0 99 && !(o.Kind == 2 && o.Value == 0)
theorem reads_any (o : Op) (w : World) : Calls Tryz.prog 71 #[.agg #[.int .i64 o.Kind, .int .i64 o.Key, .int .i64 o.Value]] w fun e w' => e = .returned (.bool (o.Kind == 1)) ∧ Below w.heap.size w w' := by
  go_enter Tryz.func71, Tryz.ntmps71
  go_wp2
  go_ret
  exact ⟨rfl, (Below.refl _ _).alloc (Nat.le_refl _) _⟩
theorem writes_any (o : Op) (w : World) : Calls Tryz.prog 67 #[.agg #[.int .i64 o.Kind, .int .i64 o.Key, .int .i64 o.Value]] w fun e w' => e = .returned (.bool (o.Kind == 2)) ∧ Below w.heap.size w w' := by
  go_enter Tryz.func67, Tryz.ntmps67
  go_wp2
  go_ret
  exact ⟨rfl, (Below.refl _ _).alloc (Nat.le_refl _) _⟩

set_option maxRecDepth 10000 in
set_option maxHeartbeats 1000000 in
theorem opValid_any (o : Op) (w : World) : Calls Tryz.prog 50 #[.agg #[.int .i64 o.Kind, .int .i64 o.Key, .int .i64 o.Value]] w fun e w' => e = .returned (.bool (opOk o)) ∧ Below w.heap.size w w' := by
  have HR := hide (fun W => reads_any o W)
  have HW := hide (fun W => writes_any o W)
  have HB := hide ((Below.refl _ w).alloc (Nat.le_refl _) (.cells #[.int .i64 o.Kind, .int .i64 o.Key, .int .i64 o.Value] 46))
  have HO := hide (show opOk o = ((o.Kind == 1 || o.Kind == 2) && inR o.Key 0 2 && inR o.Value 0 99 && !(o.Kind == 2 && o.Value == 0)) from rfl)
  cases q1 : (o.Kind == 1) with
  | false =>
    cases q2 : (o.Kind == 2) with
    | false =>
      rw [q1, q2] at HO
      rw [q1] at HR; rw [q2] at HW
      clear q1 q2
      go_enter Tryz.func50, Tryz.ntmps50
      go_wp2_with (first | (go_at_call 71; refine (HR.out _).mono ?_; rintro e w1 ⟨rfl, hb1⟩; have HB := hide (HB.out.trans (hb1.mono HB.out.size)); obtain ⟨hc1, hf1⟩ := bcell hb1; have hz1 : w.heap.size < w1.heap.size := (by have := hb1.size; simp at this; omega); clear hb1) | (go_at_call 67; refine (HW.out _).mono ?_; rintro e w2 ⟨rfl, hb2⟩; have HB := hide (HB.out.trans (hb2.mono HB.out.size)); obtain ⟨hc2, hf2⟩ := bcell hb2; have hz2 : w.heap.size < w2.heap.size := (by have := hb2.size; omega); clear hb2) | (go_at_call 72; refine (keyOk _ _).mono ?_; rintro e w' ⟨rfl, rfl⟩) | (go_at_call 73; refine (valueOk _ _).mono ?_; rintro e w' ⟨rfl, rfl⟩))
      go_ret
      exact ⟨ret_bool (by rw [HO.out]; rfl), HB.out⟩
    | true =>
      rw [q1, q2] at HO
      rw [q1] at HR; rw [q2] at HW
      clear q1 q2
      cases q3 : inR o.Key 0 2 <;> cases q4 : inR o.Value 0 99 <;> cases q5 : (o.Value == 0) <;> rw [q3, q4, q5] at HO
      all_goals
        go_enter Tryz.func50, Tryz.ntmps50
        go_wp2_with (first | (go_at_call 71; refine (HR.out _).mono ?_; rintro e w1 ⟨rfl, hb1⟩; have HB := hide (HB.out.trans (hb1.mono HB.out.size)); obtain ⟨hc1, hf1⟩ := bcell hb1; have hz1 : w.heap.size < w1.heap.size := (by have := hb1.size; simp at this; omega); clear hb1) | (go_at_call 67; refine (HW.out _).mono ?_; rintro e w2 ⟨rfl, hb2⟩; have HB := hide (HB.out.trans (hb2.mono HB.out.size)); obtain ⟨hc2, hf2⟩ := bcell hb2; have hz2 : w.heap.size < w2.heap.size := (by have := hb2.size; omega); clear hb2) | (go_at_call 72; refine (keyOk _ _).mono ?_; rintro e w' ⟨rfl, rfl⟩) | (go_at_call 73; refine (valueOk _ _).mono ?_; rintro e w' ⟨rfl, rfl⟩))
        go_ret
        exact ⟨ret_bool (by rw [HO.out]; rfl), HB.out⟩
  | true =>
    have q2 : (o.Kind == 2) = false := by simp at q1 ⊢; omega
    rw [q1, q2] at HO
    rw [q1] at HR; rw [q2] at HW
    clear q1 q2
    cases q3 : inR o.Key 0 2 <;> cases q4 : inR o.Value 0 99 <;> rw [q3, q4] at HO
    all_goals
      go_enter Tryz.func50, Tryz.ntmps50
      go_wp2_with (first | (go_at_call 71; refine (HR.out _).mono ?_; rintro e w1 ⟨rfl, hb1⟩; have HB := hide (HB.out.trans (hb1.mono HB.out.size)); obtain ⟨hc1, hf1⟩ := bcell hb1; have hz1 : w.heap.size < w1.heap.size := (by have := hb1.size; simp at this; omega); clear hb1) | (go_at_call 67; refine (HW.out _).mono ?_; rintro e w2 ⟨rfl, hb2⟩; have HB := hide (HB.out.trans (hb2.mono HB.out.size)); obtain ⟨hc2, hf2⟩ := bcell hb2; have hz2 : w.heap.size < w2.heap.size := (by have := hb2.size; omega); clear hb2) | (go_at_call 72; refine (keyOk _ _).mono ?_; rintro e w' ⟨rfl, rfl⟩) | (go_at_call 73; refine (valueOk _ _).mono ?_; rintro e w' ⟨rfl, rfl⟩))
      go_ret
      exact ⟨ret_bool (by rw [HO.out]; rfl), HB.out⟩
end Go.Proofs.YtjnghnkilnhacaaGreatDoor
namespace Go.Proofs.YtjnghnkilnhacaaGreatDoor
open Go.RowKit
set_option linter.unusedVariables false
set_option linter.unusedSimpArgs false

def txnOk (t : Txn) : Bool := t.Ops.all opOk && (inR t.Session 0 3 && decide (t.Ops.length ≤ 6))
theorem opOk_eq (o : Op) : opOk o = (inR o.Kind 1 2 && inR o.Key 0 2 && inR o.Value 0 99 && (o.Kind == 1 || decide (0 < o.Value))) := by
  rw [Bool.eq_iff_iff]
  simp only [opOk, inR, Bool.and_eq_true, Bool.or_eq_true, beq_iff_eq, decide_eq_true_eq, Bool.not_eq_true', Bool.and_eq_false_iff, beq_eq_false_iff_ne]
  omega
set_option maxRecDepth 10000 in
set_option maxHeartbeats 1000000 in
theorem specOpValid (o : Op) (w : World) : Calls Tryz.prog 48 #[.agg #[.int .i64 o.Kind, .int .i64 o.Key, .int .i64 o.Value]] w fun e w' => e = .returned (.bool (opOk o)) ∧ Below w.heap.size w w' := by
  have HO := hide (opOk_eq o)
  have HB := hide ((Below.refl _ w).alloc (Nat.le_refl _) (.cells #[.int .i64 o.Kind, .int .i64 o.Key, .int .i64 o.Value] 46))
  cases q1 : inR o.Kind 1 2 with
  | false =>
    rw [q1] at HO
    go_enter Tryz.func48, Tryz.ntmps48
    go_wp2_with (go_at_call 49; refine (l1In _ _ _ _).mono ?_; rintro e w' ⟨rfl, rfl⟩)
    go_ret
    exact ⟨by rw [HO.out]; rfl, HB.out⟩
  | true =>
    cases q2 : inR o.Key 0 2 with
    | false =>
      rw [q1, q2] at HO
      go_enter Tryz.func48, Tryz.ntmps48
      go_wp2_with (go_at_call 49; refine (l1In _ _ _ _).mono ?_; rintro e w' ⟨rfl, rfl⟩)
      go_ret
      exact ⟨by rw [HO.out]; rfl, HB.out⟩
    | true =>
      cases q3 : inR o.Value 0 99 with
      | false =>
        rw [q1, q2, q3] at HO
        go_enter Tryz.func48, Tryz.ntmps48
        go_wp2_with (go_at_call 49; refine (l1In _ _ _ _).mono ?_; rintro e w' ⟨rfl, rfl⟩)
        go_ret
        exact ⟨by rw [HO.out]; rfl, HB.out⟩
      | true =>
        rw [q1, q2, q3] at HO
        cases q4 : (o.Kind == 1) with
        | true =>
          rw [q4] at HO
          go_enter Tryz.func48, Tryz.ntmps48
          go_wp2_with (go_at_call 49; refine (l1In _ _ _ _).mono ?_; rintro e w' ⟨rfl, rfl⟩)
          go_ret
          exact ⟨by rw [HO.out]; rfl, HB.out⟩
        | false =>
          rw [q4] at HO
          go_enter Tryz.func48, Tryz.ntmps48
          go_wp2_with (go_at_call 49; refine (l1In _ _ _ _).mono ?_; rintro e w' ⟨rfl, rfl⟩)
          go_ret
          exact ⟨by rw [HO.out]; simp, HB.out⟩

set_option maxRecDepth 10000 in
set_option maxHeartbeats 1000000 in
theorem specTxnValid (t : Txn) (A : Option Addr) (c : Nat) (w : World) (hm : t.Ops.length ≤ maxLen) (hA : Row tOp w (Old w) A t.Ops) :
    Calls Tryz.prog 24 #[.agg #[.int .i64 t.Session, .slice A t.Ops.length c, .bool t.Done]] w fun e w' => e = .returned (.bool (txnOk t)) ∧ Below w.heap.size w w' := by
  have hq : t.Ops.length ≤ 9223372036854775807 := by simpa [maxLen] using hm
  have HA := hide (hA.old ((Below.refl _ w).alloc (Nat.le_refl _) (.cells #[.int .i64 t.Session, .slice A t.Ops.length c, .bool t.Done] 41)))
  have HBk := hide (Blk.new w 41 #[.int .i64 t.Session, .slice A t.Ops.length c, .bool t.Done])
  have HB := hide ((Below.refl _ w).alloc (Nat.le_refl _) (.cells #[.int .i64 t.Session, .slice A t.Ops.length c, .bool t.Done] 41))
  have HT := hide (show txnOk t = (t.Ops.all opOk && (inR t.Session 0 3 && decide (t.Ops.length ≤ 6))) from rfl)
  obtain ⟨w1, hw1⟩ : ∃ w1, w1 = w.alloc (.cells #[.int .i64 t.Session, .slice A t.Ops.length c, .bool t.Done] 41) := ⟨_, rfl⟩
  clear hA hm
  go_enter Tryz.func24, Tryz.ntmps24
  go_wp2
  rw [← hw1] at HA HBk HB ⊢
  clear hw1
  go_loopw [3] (fun i wr => ∃ k : Nat, k ≤ t.Ops.length ∧ i = .int .i64 k ∧ Hid (Upto opOk t.Ops k) ∧ Below w1.heap.size w1 wr) (fun i _ => t.Ops.length - (intOf i).toNat)
  case atStart => exact ⟨0, Nat.zero_le _, rfl, Upto.zero, Below.refl _ _⟩
  case round =>
    obtain ⟨k, hk, rfl, hI, hb⟩ := hrel
    have HK := HBk.out.below hb HBk.out.lt
    have c0 := HK.cell 0
    have c1 := HK.cell 1
    simp only [List.getElem?_toArray, List.getElem?_cons_zero, List.getElem?_cons_succ] at c0 c1
    clear HK
    by_cases hlt : k < t.Ops.length
    · obtain ⟨b, off, rfl, hbS, d0, d1, d2⟩ := at_Op HA.out hb hlt
      cases hs : opOk t.Ops[k] with
      | false =>
        have HS := hide hs; clear hs
        go_wp2_with (go_at_call 48; refine (specOpValid _ _).mono ?_; rintro e w' ⟨rfl, hb'⟩; rw [HS.out])
        go_ret
        exact ⟨ret_bool (by rw [HT.out, all_false hlt HS.out]; rfl), HB.out.trans ((hb.trans (hb'.mono hb.size)).mono HB.out.size)⟩
      | true =>
        have HS := hide hs; clear hs
        go_wp2_with (go_at_call 48; refine (specOpValid _ _).mono ?_; rintro e w' ⟨rfl, hb'⟩; rw [HS.out])
        go_roundw
        case rel => exact ⟨k + 1, by omega, by go_num, hI.out.succ hlt HS.out, hb.trans (hb'.mono hb.size)⟩
        case measure => simp [intOf]; omega
    · obtain rfl : k = t.Ops.length := by omega
      have HT2 := hide (show txnOk t = (inR t.Session 0 3 && decide (t.Ops.length ≤ 6)) by rw [HT.out, hI.out.all]; rfl)
      clear hI HT HA
      cases hs : inR t.Session 0 3 with
      | false =>
        rw [hs] at HT2
        go_wp2_with (go_at_call 49; refine (l1In _ _ _ _).mono ?_; rintro e w' ⟨rfl, rfl⟩)
        go_ret
        exact ⟨ret_bool (by rw [HT2.out]; rfl), HB.out.trans (hb.mono HB.out.size)⟩
      | true =>
        rw [hs] at HT2
        go_wp2_with (go_at_call 49; refine (l1In _ _ _ _).mono ?_; rintro e w' ⟨rfl, rfl⟩)
        go_ret
        exact ⟨ret_bool (by rw [HT2.out]; simp; try omega), HB.out.trans (hb.mono HB.out.size)⟩

def isW (key value : Int) (o : Op) : Bool := o.Kind == 2 && o.Key == key && o.Value == value
def opsN (h : List Txn) : Nat := tot (fun x : Txn => x.Ops.length) h
def writesN (h : List Txn) (key value : Int) : Nat := tot (fun x : Txn => x.Ops.countP (isW key value)) h
theorem countP_take {α : Type} (p : α → Bool) (xs : List α) (k : Nat) (h : k < xs.length) : (xs.take (k + 1)).countP p = (xs.take k).countP p + (if p xs[k] then 1 else 0) := by
  rw [List.take_succ_eq_append_getElem h, List.countP_append]
  simp [List.countP_cons]
theorem tot_le_tot {α : Type} (f g : α → Nat) : ∀ (xs : List α), (∀ x ∈ xs, f x ≤ g x) → tot f xs ≤ tot g xs
  | [], _ => Nat.le_refl _
  | x :: xs, h => by
    have h1 := tot_le_tot f g xs fun y hy => h y (List.mem_cons_of_mem _ hy)
    have h2 := h x List.mem_cons_self
    simp only [tot, List.map_cons, List.sum_cons] at h1 ⊢
    omega
set_option maxRecDepth 10000 in
set_option maxHeartbeats 1000000 in
theorem specWrites (xs : List Txn) (key value : Int) (A : Option Addr) (c : Nat) (w : World) (hm : xs.length ≤ maxLen) (hA : Row tTxn w (Old w) A xs) (ht : opsN xs ≤ 1048576) :
    Calls Tryz.prog 25 #[.slice A xs.length c, .int .i64 key, .int .i64 value] w fun e w' => e = .returned (.int .i64 (writesN xs key value : Nat)) ∧ Below w.heap.size w w' := by
  unfold maxLen at hm
  have HA := hide hA
  have HT := hide ht
  clear hA ht
  go_enter Tryz.func25, Tryz.ntmps25
  go_wp2
  go_loopw [7, 8] (fun m i wr => ∃ k : Nat, k ≤ xs.length ∧ i = .int .i64 k ∧ m = .int .i64 (writesN (xs.take k) key value : Nat) ∧ Below w.heap.size w wr) (fun _ i _ => xs.length - (intOf i).toNat)
  case atStart => exact ⟨0, Nat.zero_le _, rfl, by simp [writesN, tot], Below.refl _ _⟩
  case round =>
    obtain ⟨k, hk, rfl, rfl, hb⟩ := hrel
    by_cases hlt : k < xs.length
    · obtain ⟨b, off, A2, c2, rfl, hbS, c0, c1, c3, hi1, hi2, hi3⟩ := at_Txn HA.out hb hlt
      obtain ⟨m0, hm0⟩ : ∃ m, m = writesN (xs.take k) key value := ⟨_, rfl⟩
      have HM := hide hm0
      rw [← hm0]
      clear hm0
      have HL := hide (show m0 + xs[k].Ops.length ≤ 1048576 by
        have h1 := tot_take (fun x : Txn => x.Ops.countP (isW key value)) xs k hlt
        have h2 := tot_take (fun x : Txn => x.Ops.length) xs k hlt
        have h3 : tot (fun x : Txn => x.Ops.countP (isW key value)) (xs.take k) ≤ tot (fun x : Txn => x.Ops.length) (xs.take k) := tot_le_tot _ _ _ fun x _ => List.countP_le_length
        have h4 : tot (fun x : Txn => x.Ops.length) (xs.take (k + 1)) ≤ tot (fun x : Txn => x.Ops.length) xs := tot_mono _ _ _
        have h5 := HT.out
        have h6 := HM.out
        unfold opsN at h5
        unfold writesN at h6
        omega)
      have HR := hide hi3
      have HbS := hide (show b < wr.heap.size from Nat.lt_of_lt_of_le hbS hb.size)
      have Hc1 := hide c1
      clear hi3 hi2 hbS c0 c3
      go_wp2
      clear c1
      obtain ⟨wo, hwo⟩ : ∃ wo : World, wo = wr := ⟨_, rfl⟩
      rw [← hwo] at hb HR HbS Hc1 ⊢
      clear hwo
      go_loopw [7, 9] (fun m j wr2 => ∃ l : Nat, l ≤ xs[k].Ops.length ∧ j = .int .i64 l ∧ m = .int .i64 ((m0 + (xs[k].Ops.take l).countP (isW key value) : Nat)) ∧ Below wo.heap.size wo wr2) (fun _ j _ => xs[k].Ops.length - (intOf j).toNat)
      case atStart => exact ⟨0, Nat.zero_le _, rfl, by simp, Below.refl _ _⟩
      case round =>
        obtain ⟨l, hl, rfl, rfl, hb2⟩ := hrel
        have c1 := (hb2.cell (p := ⟨b, off + k * 3 + 1, none⟩) HbS.out).trans Hc1.out
        by_cases hlt2 : l < xs[k].Ops.length
        · obtain ⟨b2, off2, rfl, hbS2, d0, d1, d2⟩ := at_Op HR.out hb2 hlt2
          have hcp := countP_take (isW key value) xs[k].Ops l hlt2
          have hHL := HL.out
          cases hw : isW key value xs[k].Ops[l] with
          | true =>
            have hw' := hw
            simp only [isW, Bool.and_eq_true, beq_iff_eq] at hw'
            obtain ⟨⟨hw0, hw1⟩, hw2⟩ := hw'
            rw [hw0] at d0; rw [hw1] at d1; rw [hw2] at d2
            rw [hw, if_pos rfl] at hcp
            have hle : (xs[k].Ops.take l).countP (isW key value) ≤ l := Nat.le_trans List.countP_le_length (by simp; omega)
            generalize (xs[k].Ops.take l).countP (isW key value) = cn at hcp hle ⊢
            have HCP := hide hcp
            have hsum : IntKind.i64.wrap ((m0 + cn : Nat) + 1) = ((m0 + (cn + 1) : Nat) : Int) := by rw [IntWalk.i64_in _ (by omega)]; omega
            clear hw hw0 hw1 hw2 hcp
            go_wp2
            go_roundw
            case rel => exact ⟨l + 1, by omega, by go_num, by rw [HCP.out]; go_num, hb2⟩
            case measure => simp [intOf]; omega
          | false =>
            rw [hw] at hcp
            simp only [Bool.false_eq_true, if_false, Nat.add_zero] at hcp
            have HCP := hide hcp
            have HW := hide hw
            clear hw hcp
            go_wp2
            all_goals first
              | (exfalso; have hw := HW.out; simp [isW, *] at hw; done)
              | (go_roundw; (case rel => exact ⟨l + 1, by omega, by go_num, by rw [HCP.out]; go_num, hb2⟩); (case measure => simp [intOf]; omega))
        · obtain rfl : l = xs[k].Ops.length := by omega
          have hsum : m0 + (xs[k].Ops.take xs[k].Ops.length).countP (isW key value) = writesN (xs.take (k + 1)) key value := by
            have h1 := tot_take (fun x : Txn => x.Ops.countP (isW key value)) xs k hlt
            have h2 := HM.out
            unfold writesN at h2 ⊢
            rw [List.take_length]
            omega
          have HS := hide hsum
          clear hsum
          go_wp2
          go_roundw
          case rel => exact ⟨k + 1, by omega, by go_num, by rw [← HS.out], hb.trans (hb2.mono hb.size)⟩
          case measure => simp [intOf]; omega
    · obtain rfl : k = xs.length := by omega
      have HS := hide (show writesN (xs.take xs.length) key value = writesN xs key value by rw [List.take_length])
      clear HA HT
      go_wp2
      go_ret
      exact ⟨by rw [← HS.out]; rfl, hb⟩

def opFine (h : List Txn) (o : Op) : Bool := !(o.Kind == 2 && decide (1 < writesN h o.Key o.Value))
def txnFine (h : List Txn) (t : Txn) : Bool := txnOk t && t.Ops.all (opFine h)
def histV (h : List Txn) : Bool := h.all (txnFine h) && decide (h.length ≤ 6)

set_option maxRecDepth 10000 in
set_option maxHeartbeats 2000000 in
theorem specHistoryValid (xs : List Txn) (A : Option Addr) (c : Nat) (w : World) (hm : xs.length ≤ maxLen) (hA : Row tTxn w (Old w) A xs) (ht : opsN xs ≤ 1048576) :
    Calls Tryz.prog 9 #[.slice A xs.length c] w fun e w' => e = .returned (.bool (histV xs)) ∧ Below w.heap.size w w' := by
  have HW := hide (fun (key value : Int) (W : World) (hb : Below w.heap.size w W) => specWrites xs key value A c W hm (hA.old hb) ht)
  unfold maxLen at hm
  have HA := hide hA
  clear hA ht
  go_enter Tryz.func9, Tryz.ntmps9
  go_wp2
  go_loopw [3] (fun i wr => ∃ k : Nat, k ≤ xs.length ∧ i = .int .i64 k ∧ Hid (Upto (txnFine xs) xs k) ∧ Below w.heap.size w wr) (fun i _ => xs.length - (intOf i).toNat)
  case atStart => exact ⟨0, Nat.zero_le _, rfl, Upto.zero, Below.refl _ _⟩
  case round =>
    obtain ⟨k, hk, rfl, hI, hb⟩ := hrel
    by_cases hlt : k < xs.length
    · obtain ⟨b, off, A2, c2, rfl, hbS, c0, c1, c3, hi1, hi2, hi3⟩ := at_Txn HA.out hb hlt
      have HR := hide hi3
      have hm2 : xs[k].Ops.length ≤ maxLen := Nat.le_trans hi1 hi2
      have HCv := hide (specTxnValid xs[k] A2 c2 wr hm2 hi3)
      have hq2 : xs[k].Ops.length ≤ 9223372036854775807 := by simpa [maxLen] using hm2
      clear hi3 hi2 hm2
      cases hv : txnOk xs[k] with
      | false =>
        rw [hv] at HCv
        have HO := hide (show txnFine xs xs[k] = false by unfold txnFine; rw [hv]; rfl)
        clear hv
        go_wp2_with fail
        refine HCv.out.mono ?_
        rintro e w' ⟨rfl, hb'⟩
        go_wp2_with fail
        go_ret
        exact ⟨ret_bool (by unfold histV; rw [all_false hlt HO.out]; rfl), hb.trans (hb'.mono hb.size)⟩
      | true =>
        rw [hv] at HCv
        have HD := hide (show txnFine xs xs[k] = xs[k].Ops.all (opFine xs) by unfold txnFine; rw [hv]; rfl)
        clear hv
        have HbS := hide (show b < wr.heap.size from Nat.lt_of_lt_of_le hbS hb.size)
        have Hc1 := hide c1
        go_wp2_with fail
        refine HCv.out.mono ?_
        rintro e wo ⟨rfl, hb'⟩
        have Hc1 := hide ((hb'.cell (p := ⟨b, off + k * 3 + 1, none⟩) HbS.out).trans Hc1.out)
        have HR := hide (HR.out.old hb')
        have HB := hide (hb.trans (hb'.mono hb.size))
        have HbS := hide (Nat.lt_of_lt_of_le HbS.out hb'.size)
        clear c0 c1 c3 hb hb' HCv hbS
        go_wp2_with fail
        go_loopw [4] (fun j wr => ∃ l : Nat, l ≤ xs[k].Ops.length ∧ j = .int .i64 l ∧ Hid (Upto (opFine xs) xs[k].Ops l) ∧ Below wo.heap.size wo wr) (fun j _ => xs[k].Ops.length - (intOf j).toNat)
        case atStart => exact ⟨0, Nat.zero_le _, rfl, Upto.zero, Below.refl _ _⟩
        case round =>
          obtain ⟨l, hll, rfl, hJ, hb2⟩ := hrel
          have c1 := (hb2.cell (p := ⟨b, off + k * 3 + 1, none⟩) HbS.out).trans Hc1.out
          by_cases hlt2 : l < xs[k].Ops.length
          · obtain ⟨b2, off2, rfl, hbS2, d0, d1, d2⟩ := at_Op HR.out hb2 hlt2
            have HN := hide (Nat.le_trans (tot_le_tot (fun x : Txn => x.Ops.countP (isW xs[k].Ops[l].Key xs[k].Ops[l].Value)) (fun x : Txn => x.Ops.length) xs fun x _ => List.countP_le_length) (Nat.le_refl _))
            cases hk2 : (xs[k].Ops[l].Kind == 2) with
            | false =>
              have HO := hide (show opFine xs xs[k].Ops[l] = true by unfold opFine; rw [hk2]; rfl)
              go_wp2_with fail
              go_roundw
              case rel => exact ⟨l + 1, by omega, by go_num, hJ.out.succ hlt2 HO.out, hb2.alloc hb2.size _⟩
              case measure => simp [intOf]; omega
            | true =>
              have HW2 := hide (HW.out xs[k].Ops[l].Key xs[k].Ops[l].Value _ ((HB.out.trans (hb2.mono HB.out.size)).alloc (Nat.le_trans HB.out.size hb2.size) (.cells #[.int .i64 xs[k].Ops[l].Kind, .int .i64 xs[k].Ops[l].Key, .int .i64 xs[k].Ops[l].Value] 46)))
              have HO1 := hide (show opFine xs xs[k].Ops[l] = !decide (1 < writesN xs xs[k].Ops[l].Key xs[k].Ops[l].Value) by unfold opFine; rw [hk2]; rfl)
              generalize writesN xs xs[k].Ops[l].Key xs[k].Ops[l].Value = nw at HW2 HO1
              by_cases hw1 : 1 < nw
              · have HO := hide (show opFine xs xs[k].Ops[l] = false by rw [HO1.out]; simp [hw1])
                have hw1' : (1 : Int) < (nw : Int) := by omega
                clear hw1
                go_wp2_with (go_at_call 25; refine HW2.out.mono ?_; rintro e w9 ⟨rfl, hb9⟩; have HB9 := hide hb9; clear hb9)
                go_ret
                exact ⟨ret_bool (by unfold histV; rw [all_false hlt (by rw [HD.out]; exact all_false hlt2 HO.out)]; rfl), (HB.out.trans (((hb2.alloc hb2.size _).trans (HB9.out.mono (Nat.le_trans hb2.size (by simp)))).mono HB.out.size))⟩
              · have HO := hide (show opFine xs xs[k].Ops[l] = true by rw [HO1.out]; simp [hw1])
                have hw1' : ¬ (1 : Int) < (nw : Int) := by omega
                clear hw1
                go_wp2_with (go_at_call 25; refine HW2.out.mono ?_; rintro e w9 ⟨rfl, hb9⟩; have HB9 := hide hb9; clear hb9)
                go_roundw
                case rel => exact ⟨l + 1, by omega, by go_num, hJ.out.succ hlt2 HO.out, (hb2.alloc hb2.size _).trans (HB9.out.mono (Nat.le_trans hb2.size (by simp)))⟩
                case measure => simp [intOf]; omega
          · obtain rfl : l = xs[k].Ops.length := by omega
            have HO := hide (show txnFine xs xs[k] = true by rw [HD.out]; exact hJ.out.all)
            clear hJ
            go_wp2_with fail
            go_roundw
            case rel => exact ⟨k + 1, by omega, by go_num, hI.out.succ hlt HO.out, HB.out.trans (hb2.mono HB.out.size)⟩
            case measure => simp [intOf]; omega
    · obtain rfl : k = xs.length := by omega
      have HV := hide (show histV xs = decide (xs.length ≤ 6) by unfold histV; rw [hI.out.all, Bool.true_and])
      clear hI HW HA
      go_wp2
      go_ret
      exact ⟨ret_bool (by rw [HV.out]; simp; try omega), hb⟩
end Go.Proofs.YtjnghnkilnhacaaGreatDoor
