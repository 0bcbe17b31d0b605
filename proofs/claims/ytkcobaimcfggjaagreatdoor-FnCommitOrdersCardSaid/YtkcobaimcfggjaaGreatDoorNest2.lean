/- Slices of slices that grow (no reader): elements that are read elsewhere; blocks told apart by their type. -/
import Derived.Test.YtkcobaimcfggjaaGreatDoorPut
namespace Go.Proofs.YtkcobaimcfggjaaGreatDoor
open Go.RowKit
set_option linter.unusedVariables false
set_option linter.unusedSimpArgs false

/-- A type read in another world, over blocks of E. -/
def tAt {α : Type} (w0 : World) (E : Nat → Prop) (T : Ty α) : Ty α where
  size := T.size
  rel _ _ x cs := T.rel w0 E x cs
  len h := T.len h
  one h := T.one h
  mono h _ _ := h
theorem Own.reAt {α : Type} {T : Ty α} {e : TypeId} {w0 w1 W : World} {E E1 S : Nat → Prop} {xs : List α} {v : Value} (h : Own (tAt w0 E T) e W S xs v) (hE : ∀ b, E b → E1 b) (hw : ∀ b, E b → w1.heap[b]? = w0.heap[b]?) : Own (tAt w1 E1 T) e W S xs v :=
  h.weak rfl fun _ _ _ hr => T.mono hr hE hw
theorem Own.slAt {α : Type} {T : Ty α} {e : TypeId} {w0 W : World} {E S : Nat → Prop} {xs : List α} {v : Value} (h : Own (tAt w0 E T) e W S xs v) (hE : ∀ b, E b → Old W b) (hw : ∀ b, E b → W.heap[b]? = w0.heap[b]?) (hS : ∀ b, S b → Old W b) : Sl T W (Old W) xs v := by
  obtain ⟨A, c, rfl, h1, h2, h3⟩ := h.sl
  refine ⟨A, c, rfl, h1, h2, fun hp => ?_⟩
  obtain ⟨b, off, rfl, hb, hr⟩ := h3 hp
  refine ⟨b, off, rfl, hS b hb, fun k hk => ?_⟩
  obtain ⟨cs, hx, hc⟩ := hr k hk
  exact ⟨cs, T.mono hx hE hw, hc⟩
/-- Blocks of elements of type t, from base on. -/
def Of (W : World) (base : Nat) (t : TypeId) (b : Nat) : Prop := base ≤ b ∧ ∃ cur, Blk W b t cur
theorem Of.old {W : World} {base b : Nat} {t : TypeId} (h : Of W base t b) : Old W b := by obtain ⟨_, cur, hb⟩ := h; exact hb.lt
theorem Of.keep {W W' : World} {base b : Nat} {t : TypeId} (h : Of W base t b) (e : W'.heap[b]? = W.heap[b]?) : Of W' base t b := by
  obtain ⟨h1, cur, hb⟩ := h; exact ⟨h1, cur, hb.of e⟩
theorem Own.inOf {e : TypeId} {W : World} {base : Nat} {S : Nat → Prop} {xs : List Int} {v : Value} (h : Own tInt e W S xs v) (hS : ∀ b, S b → base ≤ b) : Sl tInt W (Of W base e) xs v := by
  rcases h with ⟨rfl, rfl⟩ | ⟨g, cap, cur, S', rfl, hg, hB, h1, h2, h3, h4, h5⟩
  · exact ⟨none, 0, rfl, by simp, by simp [maxLen], Row.nil⟩
  · exact ⟨_, cap, rfl, h1, h2, fun _ => ⟨g, 0, rfl, ⟨hS g hg, cur, hB⟩, fun k hk => h5 k hk⟩⟩
theorem Row.anyAt {α : Type} {T : Ty α} {w0 W : World} {A : Option Addr} {xs : List α} (h : Row T w0 (Old w0) A xs) (hw : ∀ b, Old w0 b → W.heap[b]? = w0.heap[b]?) : RowAny (tAt w0 (Old w0) T) W (fun _ => False) A xs := fun hp => by
  obtain ⟨b, off, rfl, hb, hr⟩ := h hp
  refine ⟨b, off, rfl, fun k hk => ?_⟩
  obtain ⟨cs, hx, hc⟩ := hr k hk
  exact ⟨cs, hx, fun j u hu => (World.cell?_of_block (hw b hb)).trans (hc j u hu)⟩
theorem Row.takeN {α : Type} {T : Ty α} {w : World} {S : Nat → Prop} {A : Option Addr} {xs : List α} (h : Row T w S A xs) (k : Nat) : Row T w S A (xs.take k) := fun hp => by
  rw [List.length_take] at hp
  obtain ⟨b, off, rfl, hb, hr⟩ := h (by omega)
  refine ⟨b, off, rfl, hb, fun j hj => ?_⟩
  rw [List.length_take] at hj
  obtain ⟨cs, hrel, hcs⟩ := hr j (by omega)
  exact ⟨cs, by rw [List.getElem_take]; exact hrel, hcs⟩
section
variable {P : Program}
theorem wpList_push {α : Type} (T : Ty α) {w : World} {ops : Array Oper} {rest : List Oper} {o : Oper} {a : Act} {Q : Exit → Act → World → Prop} (hgd : Region.wanted o (yielded ops a.tmps) = true) (s x : Operand) (t : TypeId)
    (ho : o.op = .call { callee := .builtin .append, args := #[s, x], argTypes := #[t, t] })
    (e : TypeId) (i : TypeInfo) (z : Value) (bytes : Nat) (ht : P.underlying t = some (.slice e)) (hi : P.info? e = some i) (hz : i.zero = some z)
    (hsize : i.size = T.size) (hby : i.bytes = bytes) (hzs : z.cells.size = T.size) (hsz : 0 < T.size)
    (K : Nat → Prop) (w0 : World) (E : Nat → Prop) (xs : List α) (y : α) (cs : List Value) (v : Value) (hs : a.eval s = v) (hO : Own (tAt w0 E T) e w (fun b => K b ∧ Old w b) xs v) (c : Nat) (hx : a.eval x = .slice (some ⟨w.heap.size, 0, none⟩) 1 c)
    (hy : T.rel w0 E y cs) (hK : ∀ b, w.heap.size ≤ b → K b)
    (h63 : xs.length + 1 ≤ maxLen) (hbytes : (xs.length + 1) * bytes ≤ 140737488355328)
    (h : ∀ v' w', Own (tAt w0 E T) e w' (fun b => K b ∧ Old w' b) (xs ++ [y]) v' → Only K w w' → (∀ b t' cur, Blk w b t' cur → t' ≠ e → w'.heap[b]? = w.heap[b]?) → wpList P ops Q rest (a.put o.dst v') w') : wpList P ops Q (o :: rest) a (w.alloc (.cells cs.toArray e)) := by
  have hO1 := hO.mono (w' := w.alloc (.cells cs.toArray e)) (fun _ h => h) (fun b hb => Below.heap_alloc _ _ _ hb.2)
  refine wpList_app (tAt w0 E T) hgd s x t ho e i z bytes ht hi hz hsize hby hzs hsz (fun b => K b ∧ Old w b) (fun _ => False) K xs [y] v hs hO1 _ 1 c hx rfl (row_one (T := tAt w0 E T) e hy (fun b hb => hb.elim)) h63 hbytes
    (fun b hb => Nat.lt_of_lt_of_le hb.2 (by simp)) (fun b hb => hb.elim) (fun b hb => hb.1) (fun b hb => hb.elim) (hK _ (by simp)) (fun v' w' h1 h2 => h v' w' h1 ?_ ?_)
  · exact (Only.of_alloc w _).trans (Only.of_grown h2 fun i hi => (hO.owned i hi).1)
  · intro b t' cur hb hne
    rw [← Below.heap_alloc w (.cells cs.toArray e) b hb.lt]
    refine h2.block b (Nat.lt_of_lt_of_le hb.lt (by simp)) (fun ee => ?_)
    rcases hO with ⟨rfl, _⟩ | ⟨g, cap, cur2, S', rfl, hg, hB, _⟩
    · simp [Value.ownBlock] at ee
    · simp [Value.ownBlock] at ee
      subst ee
      exact Blk.ne_ hb hB hne rfl
end
end Go.Proofs.YtkcobaimcfggjaaGreatDoor
