/- append of one element onto a slice of the call's own, and what stays as it was. -/
import Derived.Test.YtpcghfeiehdapaaDoorDraw
import Derived.Test.YtpcghfeiehdapaaDoorMark
namespace Go.Proofs.YtpcghfeiehdapaaDoor
open Go.RowKit
set_option linter.unusedVariables false
set_option linter.unusedSimpArgs false

theorem Only.of_grown {K : Nat → Prop} {w w' : World} {row : Option Nat} (h : w.grownBy w' row) (hr : ∀ i, row = some i → K i) : Only K w w' :=
  ⟨h.os, h.tape, h.output, h.size, fun i hi hn => h.block i hi fun e => hn (hr i e.symm)⟩
theorem Only.of_alloc {K : Nat → Prop} (w : World) (o : Obj) : Only K w (w.alloc o) := .of_below ((Below.refl _ _).alloc (Nat.le_refl _) o)
theorem Only.drewN {K : Nat → Prop} {a w : World} (h : Only K a w) (n : Nat) : Only K a (w.drewN n) := ⟨h.os, h.tape, h.output, h.size, h.block⟩
theorem Only.below {w w' : World} (h : Only (fun b => w.heap.size ≤ b) w w') : Below w.heap.size w w' := ⟨h.os, h.tape, h.output, h.size, fun i hi => h.block i hi (by omega)⟩
theorem gr_only {a w w' : World} {R : Nat} {K : Nat → Prop} (h : Gr a w R) (k : Only K w w') (hK : ∀ b, K b → a.heap.size ≤ b) : Gr a w' R :=
  ⟨k.os.trans h.os, k.tape.trans h.tape, k.output.trans h.output, Nat.le_trans h.size k.size, fun i hi hn => (k.block i (Nat.lt_of_lt_of_le hi h.size) (fun e => by have := hK i e; omega)).trans (h.block i hi hn)⟩
theorem Rd.only {w w' : World} {R P : Nat} {K : Nat → Prop} (h : Rd w R P) (k : Only K w w') (hK : ∀ b, K b → R < b) : Rd w' R P :=
  h.keep fun b hle => k.block b (Nat.lt_of_le_of_lt hle h.lt) (fun e => by have := hK b e; omega)
theorem Own.only {α : Type} {T : Ty α} {e : TypeId} {w w' : World} {S : Nat → Prop} {K : Nat → Prop} {xs : List α} {v : Value} (h : Own T e w S xs v) (k : Only K w w') (hS : ∀ b, S b → Old w b ∧ ¬ K b) : Own T e w' S xs v :=
  h.mono (fun _ h => h) fun b hb => k.block b (hS b hb).1 (hS b hb).2
theorem Own.onlyGr {α : Type} {T : Ty α} {e : TypeId} {w w' : World} {R : Nat} {K : Nat → Prop} {xs : List α} {v : Value} (h : Own T e w (fun b => K b ∧ Old w b) xs v) (g : Gr w w' R) (hK : ¬ K R) : Own T e w' (fun b => K b ∧ Old w' b) xs v :=
  h.mono (fun b hb => ⟨hb.1, Nat.lt_of_lt_of_le hb.2 g.size⟩) fun b hb => g.block b hb.2 (fun e => by injection e with e; exact hK (e ▸ hb.1))
theorem Own.onlyBelow {α : Type} {T : Ty α} {e : TypeId} {w w' : World} {K : Nat → Prop} {xs : List α} {v : Value} (h : Own T e w (fun b => K b ∧ Old w b) xs v) (g : Below w.heap.size w w') : Own T e w' (fun b => K b ∧ Old w' b) xs v :=
  h.mono (fun b hb => ⟨hb.1, Nat.lt_of_lt_of_le hb.2 g.size⟩) fun b hb => g.block b hb.2
theorem Own.owned {α : Type} {T : Ty α} {e : TypeId} {w : World} {S : Nat → Prop} {xs : List α} {v : Value} (h : Own T e w S xs v) : ∀ k, v.ownBlock = some k → S k := fun k hk => by
  rcases h with ⟨rfl, _⟩ | ⟨g, cap, cur, S', rfl, hg, _⟩
  · simp [Value.ownBlock] at hk
  · simp [Value.ownBlock] at hk; exact hk ▸ hg
theorem own_zeros {e : TypeId} (w : World) {S : Nat → Prop} (n : Nat) (hm : n ≤ maxLen) (hS : S w.heap.size) :
    Own tInt e (w.alloc (.cells (madeCells #[.int .i64 0] n) e)) S (List.replicate n 0) (.slice (some ⟨w.heap.size, 0, none⟩) n n) := by
  have h : Filling tInt e (w.alloc (.cells (madeCells #[.int .i64 0] n) e)) (fun _ => False) w.heap.size n n (List.replicate n 0) := by
    refine ⟨⟨_, Blk.new _ _ _, by rw [size_madeCells]; show n = n * 1; omega⟩, fun k hk => ?_, fun h => h⟩
    have hk' : k < n := by simp at hk; omega
    refine ⟨_, rfl, fun j u hu => ?_⟩
    obtain ⟨hj, rfl⟩ := List.getElem?_eq_some_iff.1 hu
    have hj0 : j = 0 := by simpa using hj
    subst hj0
    rw [(Blk.new w e _).cell, Array.getElem?_eq_getElem (by rw [size_madeCells]; show 0 + k * 1 + 0 < n; omega)]
    simp [madeCells, Nat.mod_one]
  have h2 : Filling tInt e (w.alloc (.cells (madeCells #[.int .i64 0] n) e)) (fun _ => False) w.heap.size n (List.replicate n (0 : Int)).length (List.replicate n 0) := by simpa using h
  exact h2.own (by simp) hm hS (fun _ h => h.elim)
theorem Row.anySpan {w : World} {S : Nat → Prop} {A : Option Addr} {xs : List Span} (h : Row tSpan w S A xs) : RowAny tSpan w (fun _ => False) A xs := fun hp => by
  obtain ⟨b, off, hA, _, hr⟩ := h hp
  exact ⟨b, off, hA, fun k hk => hr k hk⟩
theorem Row.anyCall {w : World} {S : Nat → Prop} {A : Option Addr} {xs : List Call} (h : Row tCall w S A xs) : RowAny tCall w (fun _ => False) A xs := fun hp => by
  obtain ⟨b, off, hA, _, hr⟩ := h hp
  exact ⟨b, off, hA, fun k hk => hr k hk⟩
theorem Row.anyOp {w : World} {S : Nat → Prop} {A : Option Addr} {xs : List Op} (h : Row tOp w S A xs) : RowAny tOp w (fun _ => False) A xs := fun hp => by
  obtain ⟨b, off, hA, _, hr⟩ := h hp
  exact ⟨b, off, hA, fun k hk => hr k hk⟩
theorem Row.anyEdge {w : World} {S : Nat → Prop} {A : Option Addr} {xs : List Edge} (h : Row tEdge w S A xs) : RowAny tEdge w (fun _ => False) A xs := fun hp => by
  obtain ⟨b, off, hA, _, hr⟩ := h hp
  exact ⟨b, off, hA, fun k hk => hr k hk⟩
/-- A new, empty slice of the call's own. -/
theorem Own.empty {α : Type} {T : Ty α} {e : TypeId} (w : World) (K : Nat → Prop) (hK : K w.heap.size) :
    Own T e (w.alloc (.cells #[] e)) (fun b => K b ∧ Old (w.alloc (.cells #[] e)) b) ([] : List α) (.slice (some ⟨w.heap.size, 0, none⟩) 0 0) :=
  Own.made w #[] 0 (by simp) (by simp [maxLen]) ⟨hK, by simp [Old]⟩
theorem Own.oldRow {α : Type} {T : Ty α} {e : TypeId} {w : World} {K : Nat → Prop} {xs : List α} {v : Value} (h : Own T e w (fun b => K b ∧ Old w b) xs v) : Sl T w (Old w) xs v :=
  h.sl.mono (fun _ hb => hb.2) fun _ _ => rfl
theorem below_onlyK {B : Nat} {K : Nat → Prop} {a b c : World} (h : Below B a b) (k : Only K b c) (hB : B ≤ b.heap.size) (hK : ∀ i, K i → B ≤ i) : Below B a c := below_only h k hB hK
/-- A slice from place k on. -/
theorem Row.cut {α : Type} {T : Ty α} {w : World} {S : Nat → Prop} {A : Option Addr} {xs : List α} (h : Row T w S A xs) (k : Nat) : Row T w S (A.map (fun x => x.add (k * T.size))) (xs.drop k) := fun hp => by
  rw [List.length_drop] at hp
  obtain ⟨b, off, rfl, hb, hr⟩ := h (by omega)
  refine ⟨b, off + k * T.size, by rw [Option.map_some, Go.WideShapes.add_plain], hb, fun j hj => ?_⟩
  rw [List.length_drop] at hj
  obtain ⟨cs, hrel, hcs⟩ := hr (k + j) (by omega)
  refine ⟨cs, by rw [List.getElem_drop]; exact hrel, fun i u hu => ?_⟩
  have := hcs i u hu
  rwa [Nat.add_mul, ← Nat.add_assoc] at this
section
variable {P : Program}
theorem wpList_put {α : Type} (T : Ty α) {w : World} {ops : Array Oper} {rest : List Oper} {o : Oper} {a : Act} {Q : Exit → Act → World → Prop} (hgd : Region.wanted o (yielded ops a.tmps) = true) (s x : Operand) (t : TypeId)
    (ho : o.op = .call { callee := .builtin .append, args := #[s, x], argTypes := #[t, t] })
    (e : TypeId) (i : TypeInfo) (z : Value) (bytes : Nat) (ht : P.underlying t = some (.slice e)) (hi : P.info? e = some i) (hz : i.zero = some z)
    (hsize : i.size = T.size) (hby : i.bytes = bytes) (hzs : z.cells.size = T.size) (hsz : 0 < T.size)
    (K Sy : Nat → Prop) (xs : List α) (y : α) (cs : List Value) (v : Value) (hs : a.eval s = v) (hO : Own T e w (fun b => K b ∧ Old w b) xs v) (c : Nat) (hx : a.eval x = .slice (some ⟨w.heap.size, 0, none⟩) 1 c)
    (hy : T.rel w Sy y cs) (hSy : ∀ b, Sy b → K b ∧ Old w b ∧ v.ownBlock ≠ some b) (hK : ∀ b, w.heap.size ≤ b → K b)
    (h63 : xs.length + 1 ≤ maxLen) (hbytes : (xs.length + 1) * bytes ≤ 140737488355328)
    (h : ∀ v' w', Own T e w' (fun b => K b ∧ Old w' b) (xs ++ [y]) v' → Only K w w' → wpList P ops Q rest (a.put o.dst v') w') : wpList P ops Q (o :: rest) a (w.alloc (.cells cs.toArray e)) := by
  have hO1 := hO.mono (w' := w.alloc (.cells cs.toArray e)) (fun _ h => h) (fun b hb => Below.heap_alloc _ _ _ hb.2)
  refine wpList_app T hgd s x t ho e i z bytes ht hi hz hsize hby hzs hsz (fun b => K b ∧ Old w b) Sy K xs [y] v hs hO1 _ 1 c hx rfl (row_one e hy (fun b hb => (hSy b hb).2.1)) h63 hbytes
    (fun b hb => Nat.lt_of_lt_of_le hb.2 (by simp)) (fun b hb => ⟨Nat.lt_of_lt_of_le (hSy b hb).2.1 (by simp), (hSy b hb).2.2⟩) (fun b hb => hb.1) (fun b hb => (hSy b hb).1) (hK _ (by simp)) (fun v' w' h1 h2 => h v' w' h1 ?_)
  exact (Only.of_alloc w _).trans (Only.of_grown h2 fun i hi => (hO.owned i hi).1)
theorem wpList_cat {α : Type} (T : Ty α) {w : World} {ops : Array Oper} {rest : List Oper} {o : Oper} {a : Act} {Q : Exit → Act → World → Prop} (hgd : Region.wanted o (yielded ops a.tmps) = true) (s x : Operand) (t : TypeId)
    (ho : o.op = .call { callee := .builtin .append, args := #[s, x], argTypes := #[t, t] })
    (e : TypeId) (i : TypeInfo) (z : Value) (bytes : Nat) (ht : P.underlying t = some (.slice e)) (hi : P.info? e = some i) (hz : i.zero = some z)
    (hsize : i.size = T.size) (hby : i.bytes = bytes) (hzs : z.cells.size = T.size) (hsz : 0 < T.size)
    (K Sy : Nat → Prop) (xs ys : List α) (v : Value) (hs : a.eval s = v) (hO : Own T e w (fun b => K b ∧ Old w b) xs v) (A : Option Addr) (m c : Nat) (hx : a.eval x = .slice A m c) (hm : m = ys.length)
    (hy : RowAny T w Sy A ys) (hSy : ∀ b, Sy b → K b ∧ Old w b ∧ v.ownBlock ≠ some b) (hK : ∀ b, w.heap.size ≤ b → K b)
    (h63 : xs.length + ys.length ≤ maxLen) (hbytes : (xs.length + ys.length) * bytes ≤ 140737488355328)
    (h : ∀ v' w', Own T e w' (fun b => K b ∧ Old w' b) (xs ++ ys) v' → Only K w w' → wpList P ops Q rest (a.put o.dst v') w') : wpList P ops Q (o :: rest) a w :=
  wpList_app T hgd s x t ho e i z bytes ht hi hz hsize hby hzs hsz (fun b => K b ∧ Old w b) Sy K xs ys v hs hO A m c hx hm hy h63 hbytes
    (fun b hb => hb.2) (fun b hb => ⟨(hSy b hb).2.1, (hSy b hb).2.2⟩) (fun b hb => hb.1) (fun b hb => (hSy b hb).1) (hK _ (Nat.le_refl _))
    (fun v' w' h1 h2 => h v' w' h1 (Only.of_grown h2 fun i hi => (hO.owned i hi).1))
end
end Go.Proofs.YtpcghfeiehdapaaDoor
