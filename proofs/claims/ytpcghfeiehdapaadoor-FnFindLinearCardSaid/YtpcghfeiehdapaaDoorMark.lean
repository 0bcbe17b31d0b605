/- The marks that the laws package writes into memory and reads back. -/
import Derived.Test.YtpcghfeiehdapaaDoorProg
import Derived.Test.YtpcghfeiehdapaaDoorElems
namespace Go.Proofs.YtpcghfeiehdapaaDoor
open Go.RowKit
set_option linter.unusedVariables false
set_option linter.unusedSimpArgs false

/-- Only blocks of S may have changed; what is new is new. -/
structure Only (S : Nat → Prop) (w w' : World) : Prop where
  os : w'.os = w.os
  tape : w'.tape = w.tape
  output : w'.output = w.output
  size : w.heap.size ≤ w'.heap.size
  block : ∀ k, k < w.heap.size → ¬ S k → w'.heap[k]? = w.heap[k]?
theorem Only.refl (S : Nat → Prop) (w : World) : Only S w w := ⟨rfl, rfl, rfl, Nat.le_refl _, fun _ _ _ => rfl⟩
theorem Only.trans {S : Nat → Prop} {a b c : World} (h : Only S a b) (k : Only S b c) : Only S a c :=
  ⟨k.os.trans h.os, k.tape.trans h.tape, k.output.trans h.output, Nat.le_trans h.size k.size, fun i hi hs => (k.block i (Nat.lt_of_lt_of_le hi h.size) hs).trans (h.block i hi hs)⟩
theorem Only.mono {S S' : Nat → Prop} {a b : World} (h : Only S a b) (hs : ∀ k, S k → S' k) : Only S' a b := ⟨h.os, h.tape, h.output, h.size, fun i hi hn => h.block i hi fun e => hn (hs i e)⟩
theorem Only.of_below {S : Nat → Prop} {a b : World} (h : Below a.heap.size a b) : Only S a b := ⟨h.os, h.tape, h.output, h.size, fun i hi _ => h.block i hi⟩
theorem Only.setCell {S : Nat → Prop} {a b : World} (h : Only S a b) {p : Addr} (hp : S p.block) (u : Value) : Only S a (b.setCell p u) :=
  ⟨h.os, h.tape, h.output, by simpa [World.setCell] using h.size, fun i hi hn => (Below.heap_setCell _ _ _ _ (by rintro rfl; exact hn hp)).trans (h.block i hi hn)⟩
theorem below_only {S : Nat → Prop} {B : Nat} {a b c : World} (h : Below B a b) (k : Only S b c) (hB : B ≤ b.heap.size) (hS : ∀ i, S i → B ≤ i) : Below B a c :=
  h.trans ⟨k.os, k.tape, k.output, k.size, fun i hi => k.block i (Nat.lt_of_lt_of_le hi hB) fun e => by have := hS i e; omega⟩

/-- Rows keep their length and their element type. -/
def Shape (w w' : World) : Prop := ∀ g e cur, Blk w g e cur → ∃ cur', Blk w' g e cur' ∧ cur'.size = cur.size
theorem Shape.refl (w : World) : Shape w w := fun _ _ cur h => ⟨cur, h, rfl⟩
theorem Shape.trans {a b c : World} (h : Shape a b) (k : Shape b c) : Shape a c := fun g e cur hb => by
  obtain ⟨c1, h1, e1⟩ := h g e cur hb
  obtain ⟨c2, h2, e2⟩ := k g e c1 h1
  exact ⟨c2, h2, e2.trans e1⟩
theorem Shape.setCell (w : World) (g i : Nat) (u : Value) : Shape w (w.setCell ⟨g, i, none⟩ u) := fun g' e cur hb => by
  by_cases hg : g' = g
  · subst hg; exact ⟨_, hb.set_ i u, by simp⟩
  · exact ⟨cur, hb.far (p := ⟨g, i, none⟩) hg u, rfl⟩

/-- A slice that may be written: n places of element type e (one cell each), from the head of a block of S on. -/
def Room (w : World) (S : Nat → Prop) (e : TypeId) (A : Option Addr) (n : Nat) : Prop :=
  0 < n → ∃ g cur, A = some ⟨g, 0, none⟩ ∧ S g ∧ Blk w g e cur ∧ n ≤ cur.size
theorem Room.shape {w w' : World} {S : Nat → Prop} {e : TypeId} {A : Option Addr} {n : Nat} (h : Room w S e A n) (hs : Shape w w') : Room w' S e A n := fun hn => by
  obtain ⟨g, cur, rfl, hg, hb, hl⟩ := h hn
  obtain ⟨c', h', e'⟩ := hs g e cur hb
  exact ⟨g, c', rfl, hg, h', by omega⟩
theorem Room.keep {w w' : World} {S : Nat → Prop} {e : TypeId} {A : Option Addr} {n : Nat} (h : Room w S e A n) (hw : ∀ b, S b → w'.heap[b]? = w.heap[b]?) : Room w' S e A n := fun hn => by
  obtain ⟨g, cur, rfl, hg, hb, hl⟩ := h hn
  exact ⟨g, cur, rfl, hg, hb.of (hw g hg), hl⟩
theorem Own.room {e : TypeId} {w : World} {S : Nat → Prop} {xs : List Int} {A : Option Addr} {n c : Nat} (h : Own tInt e w S xs (.slice A n c)) : Room w S e A xs.length := fun hn => by
  rcases h with ⟨h, rfl⟩ | ⟨g, cap, cur, S', hv, hg, hB, h1, h2, h3, _⟩
  · simp at hn
  · injection hv with hA _ _
    refine ⟨g, cur, hA, hg, hB, ?_⟩
    rw [h3]; show xs.length ≤ cap * 1; omega
theorem Own.row {α : Type} {T : Ty α} {e : TypeId} {w : World} {S : Nat → Prop} {xs : List α} {A : Option Addr} {n c : Nat} (h : Own T e w S xs (.slice A n c)) : Row T w S A xs := by
  obtain ⟨A', c', hv, _, _, hR⟩ := h.sl
  injection hv with hA _ _
  subst hA
  exact hR
/-- The marks k, k+1, .. stand in a slice. -/
def MarksAt (w : World) (S : Nat → Prop) (A : Option Addr) (k : Int) (n : Nat) : Prop :=
  0 < n → ∃ g, A = some ⟨g, 0, none⟩ ∧ S g ∧ ∀ j, j < n → w.cell? ⟨g, j, none⟩ = some (.int .i64 (k + j))
theorem MarksAt.keep {w w' : World} {S : Nat → Prop} {A : Option Addr} {k : Int} {n : Nat} (h : MarksAt w S A k n) (hw : ∀ b, S b → w'.heap[b]? = w.heap[b]?) : MarksAt w' S A k n := fun hn => by
  obtain ⟨g, rfl, hg, hc⟩ := h hn
  exact ⟨g, rfl, hg, fun j hj => (World.cell?_of_block (hw g hg)).trans (hc j hj)⟩

end Go.Proofs.YtpcghfeiehdapaaDoor
