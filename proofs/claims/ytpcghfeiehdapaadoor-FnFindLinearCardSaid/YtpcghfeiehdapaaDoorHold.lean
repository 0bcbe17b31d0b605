/- Slices that read as a list and may be written, each in a block that is known; rows of transactions whose operations lie in blocks of their own. -/
import Derived.Test.YtpcghfeiehdapaaDoorPut
namespace Go.Proofs.YtpcghfeiehdapaaDoor
open Go.RowKit
set_option linter.unusedVariables false
set_option linter.unusedSimpArgs false

theorem Sl.row {α : Type} {T : Ty α} {w : World} {S : Nat → Prop} {xs : List α} {A : Option Addr} {n c : Nat} (h : Sl T w S xs (.slice A n c)) : Row T w S A xs := by
  obtain ⟨A', c', hv, _, _, hR⟩ := h
  injection hv with hA _ _
  subst hA
  exact hR
/-- A slice that reads as xs and may be written: its elements begin at the head of block g, which is known whole. -/
def Hold {α : Type} (T : Ty α) (e : TypeId) (w : World) (S : Nat → Prop) (xs : List α) (v : Value) (g : Nat) : Prop :=
  ∃ A c, v = .slice A xs.length c ∧ xs.length ≤ c ∧ c ≤ maxLen ∧ (0 < xs.length → A = some ⟨g, 0, none⟩ ∧ S g ∧ (∃ cur, Blk w g e cur ∧ xs.length * T.size ≤ cur.size) ∧ ∃ S' : Nat → Prop, (∀ b, S' b → S b ∧ b ≠ g) ∧ RowAt T w S' g 0 xs)
section
variable {α : Type} {T : Ty α} {e : TypeId} {w w' : World} {S S2 : Nat → Prop} {xs : List α} {v : Value} {g : Nat}
theorem Hold.mono (h : Hold T e w S xs v g) (h1 : ∀ b, S b → S2 b) (h2 : ∀ b, S b → w'.heap[b]? = w.heap[b]?) : Hold T e w' S2 xs v g := by
  obtain ⟨A, c, rfl, hc, hm, hr⟩ := h
  refine ⟨A, c, rfl, hc, hm, fun hp => ?_⟩
  obtain ⟨rfl, hg, ⟨cur, hB, hl⟩, S', h4, h5⟩ := hr hp
  exact ⟨rfl, h1 g hg, ⟨cur, hB.of (h2 g hg), hl⟩, S', fun b hb => ⟨h1 b (h4 b hb).1, (h4 b hb).2⟩, h5.mono (fun _ h => h) (fun b hb => h2 b (h4 b hb).1) (h2 g hg)⟩
theorem Hold.sl (h : Hold T e w S xs v g) : Sl T w S xs v := by
  obtain ⟨A, c, rfl, hc, hm, hr⟩ := h
  refine ⟨A, c, rfl, hc, hm, fun hp => ?_⟩
  obtain ⟨rfl, hg, ⟨cur, hB, hl⟩, S', h4, h5⟩ := hr hp
  exact ⟨g, 0, rfl, hg, h5.mono (fun b hb => (h4 b hb).1) (fun _ _ => rfl) rfl⟩
theorem Hold.old (h : Hold T e w' (New w w') xs v g) : Sl T w' (Old w') xs v := h.sl.mono (fun _ hb => hb.2) fun _ _ => rfl
theorem Own.hold (h : Own T e w S xs v) : ∃ g, Hold T e w S xs v g ∧ (v.ownBlock = none ∨ v.ownBlock = some g) := by
  rcases h with ⟨rfl, rfl⟩ | ⟨g, cap, cur, S', rfl, hg, hB, h1, h2, h3, h4, h5⟩
  · exact ⟨0, ⟨none, 0, rfl, by simp, by simp [maxLen], fun h => absurd h (by simp)⟩, .inl rfl⟩
  · exact ⟨g, ⟨_, cap, rfl, h1, h2, fun _ => ⟨rfl, hg, ⟨cur, hB, by rw [h3]; exact Nat.mul_le_mul_right _ h1⟩, S', h4, h5⟩⟩, .inr rfl⟩
/-- The block is one of S, or the list is empty. -/
theorem Own.holdAt (h : Own T e w S xs v) (d : Nat) : ∃ g, Hold T e w S xs v g ∧ (S g ∨ g = d) := by
  rcases h with ⟨rfl, rfl⟩ | ⟨g, cap, cur, S', rfl, hg, hB, h1, h2, h3, h4, h5⟩
  · exact ⟨d, ⟨none, 0, rfl, by simp, by simp [maxLen], fun h => absurd h (by simp)⟩, .inr rfl⟩
  · exact ⟨g, ⟨_, cap, rfl, h1, h2, fun _ => ⟨rfl, hg, ⟨cur, hB, by rw [h3]; exact Nat.mul_le_mul_right _ h1⟩, S', h4, h5⟩⟩, .inl hg⟩
theorem Hold.clip {A : Option Addr} {n c : Nat} (h : Hold T e w S xs (.slice A n c) g) : Hold T e w S xs (.slice A n n) g := by
  obtain ⟨A', c', hv, hc, hm, hr⟩ := h
  injection hv with h1 h2 h3
  subst h1; subst h2; subst h3
  exact ⟨_, _, rfl, Nat.le_refl _, Nat.le_trans hc hm, hr⟩
theorem Hold.nil (g : Nat) : Hold T e w S ([] : List α) (.slice none 0 0) g := ⟨none, 0, rfl, by simp, by simp [maxLen], fun h => absurd h (by simp)⟩
end
/-- A transaction whose operations may be written; their block is part of the datum. -/
def tTxnB (e : TypeId) : Ty (Txn × Nat) where
  size := 3
  rel w S p cs := ∃ v, cs = [.int .i64 p.1.Session, v, .bool p.1.Done] ∧ Hold tOp e w S p.1.Ops v p.2
  len h := by obtain ⟨A, rfl, _⟩ := h; rfl
  one h u hu := by
    obtain ⟨v, rfl, h2⟩ := h
    obtain ⟨A, c, rfl, _⟩ := h2.sl
    simp at hu
    rcases hu with rfl | rfl | rfl <;> rfl
  mono h h2 h3 := by obtain ⟨v, rfl, h4⟩ := h; exact ⟨v, rfl, h4.mono h2 h3⟩
theorem RowAt.txnB {e : TypeId} {w : World} {S : Nat → Prop} {b off : Nat} {ps : List (Txn × Nat)} (h : RowAt (tTxnB e) w S b off ps) : RowAt tTxn w S b off (ps.map Prod.fst) := fun k hk => by
  rw [List.length_map] at hk
  obtain ⟨cs, ⟨v, rfl, hr⟩, hc⟩ := h k hk
  exact ⟨_, ⟨v, by simp, by simpa using hr.sl⟩, hc⟩
theorem Sl.txnB {e : TypeId} {w : World} {S : Nat → Prop} {ps : List (Txn × Nat)} {v : Value} (h : Sl (tTxnB e) w S ps v) : Sl tTxn w S (ps.map Prod.fst) v := by
  obtain ⟨A, c, rfl, h1, h2, h3⟩ := h
  refine ⟨A, c, by simp, by simpa using h1, h2, fun hp => ?_⟩
  obtain ⟨b, off, rfl, hb, hr⟩ := h3 (by simpa using hp)
  exact ⟨b, off, rfl, hb, hr.txnB⟩
/-- A list of numbers whose block is part of the datum. -/
def tIntSB (e : TypeId) : Ty (List Int × Nat) where
  size := 1
  rel w S p cs := ∃ v, cs = [v] ∧ Hold tInt e w S p.1 v p.2
  len h := by obtain ⟨A, rfl, _⟩ := h; rfl
  one h u hu := by
    obtain ⟨v, rfl, h2⟩ := h
    obtain ⟨A, c, rfl, _⟩ := h2.sl
    simp at hu
    subst hu; rfl
  mono h h2 h3 := by obtain ⟨v, rfl, h4⟩ := h; exact ⟨v, rfl, h4.mono h2 h3⟩
theorem RowAt.intSB {e : TypeId} {w : World} {S : Nat → Prop} {b off : Nat} {ps : List (List Int × Nat)} (h : RowAt (tIntSB e) w S b off ps) : RowAt (tSlice tInt) w S b off (ps.map Prod.fst) := fun k hk => by
  rw [List.length_map] at hk
  obtain ⟨cs, ⟨v, rfl, hr⟩, hc⟩ := h k hk
  exact ⟨_, ⟨v, rfl, by simpa using hr.sl⟩, hc⟩
theorem Sl.intSB {e : TypeId} {w : World} {S : Nat → Prop} {ps : List (List Int × Nat)} {v : Value} (h : Sl (tIntSB e) w S ps v) : Sl (tSlice tInt) w S (ps.map Prod.fst) v := by
  obtain ⟨A, c, rfl, h1, h2, h3⟩ := h
  refine ⟨A, c, by simp, by simpa using h1, h2, fun hp => ?_⟩
  obtain ⟨b, off, rfl, hb, hr⟩ := h3 (by simpa using hp)
  exact ⟨b, off, rfl, hb, hr.intSB⟩
section
variable {P : Program}
/-- append(s, x...), as one operation: s of the call's own, x any row. -/
theorem wp_cat {α : Type} (T : Ty α) {w : World} {o : Oper} {a : Act} {K' : Act → World → Prop} {Q : Exit → Act → World → Prop} (s x : Operand) (t : TypeId)
    (ho : o.op = .call { callee := .builtin .append, args := #[s, x], argTypes := #[t, t] })
    (e : TypeId) (i : TypeInfo) (z : Value) (bytes : Nat) (ht : P.underlying t = some (.slice e)) (hi : P.info? e = some i) (hz : i.zero = some z)
    (hsize : i.size = T.size) (hby : i.bytes = bytes) (hzs : z.cells.size = T.size) (hsz : 0 < T.size)
    (K Sy : Nat → Prop) (xs ys : List α) (v : Value) (hs : a.eval s = v) (hO : Own T e w (fun b => K b ∧ Old w b) xs v) (A : Option Addr) (m c : Nat) (hx : a.eval x = .slice A m c) (hm : m = ys.length)
    (hy : RowAny T w Sy A ys) (hSy : ∀ b, Sy b → K b ∧ Old w b ∧ v.ownBlock ≠ some b) (hK : ∀ b, w.heap.size ≤ b → K b)
    (h63 : xs.length + ys.length ≤ maxLen) (hbytes : (xs.length + ys.length) * bytes ≤ 140737488355328)
    (h : ∀ v' w', Own T e w' (fun b => K b ∧ Old w' b) (xs ++ ys) v' → Only K w w' → K' (a.put o.dst v') w') : o.wp P a w K' Q :=
  wp_app T s x t ho e i z bytes ht hi hz hsize hby hzs hsz (fun b => K b ∧ Old w b) Sy K xs ys v hs hO A m c hx hm hy h63 hbytes
    (fun b hb => hb.2) (fun b hb => ⟨(hSy b hb).2.1, (hSy b hb).2.2⟩) (fun b hb => hb.1) (fun b hb => (hSy b hb).1) (hK _ (Nat.le_refl _))
    (fun v' w' h1 h2 => h v' w' h1 (Only.of_grown h2 fun i hi => (hO.owned i hi).1))
theorem wp_put {α : Type} (T : Ty α) {w : World} {o : Oper} {a : Act} {K' : Act → World → Prop} {Q : Exit → Act → World → Prop} (s x : Operand) (t : TypeId)
    (ho : o.op = .call { callee := .builtin .append, args := #[s, x], argTypes := #[t, t] })
    (e : TypeId) (i : TypeInfo) (z : Value) (bytes : Nat) (ht : P.underlying t = some (.slice e)) (hi : P.info? e = some i) (hz : i.zero = some z)
    (hsize : i.size = T.size) (hby : i.bytes = bytes) (hzs : z.cells.size = T.size) (hsz : 0 < T.size)
    (K Sy : Nat → Prop) (xs : List α) (y : α) (cs : List Value) (v : Value) (hs : a.eval s = v) (hO : Own T e w (fun b => K b ∧ Old w b) xs v) (c : Nat) (hx : a.eval x = .slice (some ⟨w.heap.size, 0, none⟩) 1 c)
    (hy : T.rel w Sy y cs) (hSy : ∀ b, Sy b → K b ∧ Old w b ∧ v.ownBlock ≠ some b) (hK : ∀ b, w.heap.size ≤ b → K b)
    (h63 : xs.length + 1 ≤ maxLen) (hbytes : (xs.length + 1) * bytes ≤ 140737488355328)
    (h : ∀ v' w', Own T e w' (fun b => K b ∧ Old w' b) (xs ++ [y]) v' → Only K w w' → K' (a.put o.dst v') w') : o.wp P a (w.alloc (.cells cs.toArray e)) K' Q := by
  have hO1 := hO.mono (w' := w.alloc (.cells cs.toArray e)) (fun _ h => h) (fun b hb => Below.heap_alloc _ _ _ hb.2)
  refine wp_app T s x t ho e i z bytes ht hi hz hsize hby hzs hsz (fun b => K b ∧ Old w b) Sy K xs [y] v hs hO1 _ 1 c hx rfl (row_one e hy (fun b hb => (hSy b hb).2.1)) h63 hbytes
    (fun b hb => Nat.lt_of_lt_of_le hb.2 (by simp)) (fun b hb => ⟨Nat.lt_of_lt_of_le (hSy b hb).2.1 (by simp), (hSy b hb).2.2⟩) (fun b hb => hb.1) (fun b hb => (hSy b hb).1) (hK _ (by simp)) (fun v' w' h1 h2 => h v' w' h1 ?_)
  exact (Only.of_alloc w _).trans (Only.of_grown h2 fun i hi => (hO.owned i hi).1)
end
/-- A slice of one element, newly made. -/
theorem Own.one {α : Type} {T : Ty α} {e : TypeId} (w : World) {S K : Nat → Prop} {x : α} (cs : List Value) (hr : T.rel w S x cs) (hS : ∀ b, S b → K b ∧ Old w b) (hK : K w.heap.size) :
    Own T e (w.alloc (.cells cs.toArray e)) K [x] (.slice (some ⟨w.heap.size, 0, none⟩) 1 1) := by
  obtain ⟨b, off, hb, hrow⟩ := row_one e hr (fun b h => (hS b h).2) (by simp)
  have hbo : w.heap.size = b ∧ 0 = off := by simpa using hb
  obtain ⟨rfl, rfl⟩ := hbo
  exact .inr ⟨_, 1, _, S, rfl, hK, Blk.new _ _ _, by simp, by simp [maxLen], by rw [List.size_toArray, T.len hr]; omega, fun b h => ⟨(hS b h).1, fun e => by have := (hS b h).2; unfold Old at this; omega⟩, hrow⟩
/-- The blocks go up. -/
def Up {α : Type} (ps : List (α × Nat)) : Prop := ps.Pairwise fun a b => a.2 < b.2
theorem Up.snoc {α : Type} {ps : List (α × Nat)} {p : α × Nat} (h : Up ps) (hp : ∀ q ∈ ps, q.2 < p.2) : Up (ps ++ [p]) := by
  unfold Up
  rw [List.pairwise_append]
  exact ⟨h, List.pairwise_singleton _ _, fun a ha b hb => by simp at hb; subst hb; exact hp a ha⟩
end Go.Proofs.YtpcghfeiehdapaaDoor
