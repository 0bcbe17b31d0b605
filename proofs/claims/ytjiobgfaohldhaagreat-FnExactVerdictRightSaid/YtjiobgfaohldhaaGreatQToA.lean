/- What the proofs of this seat share: how Go data lie in memory (rows of cells), as Lean predicates over worlds. What the arguments of a law read as: slices of numbers, of structs, of slices, opened to rows of cells. Over any program. What a row of Go data gives at one place. The conversions of the laws package make new memory that reads as their argument: ints, spans, operations, edges. -/
import Derived.Test.YtjiobgfaohldhaaGreatProg
import Derived.WalkKit
import Derived.ProofKit
import Derived.Below
import Derived.BigQuiet
import Derived.Deep.QuietTactic
import Derived.Deep.LoopGhost
import Derived.WalkSpells
import Derived.Outline
import Derived.Shelf.Abstract
import Derived.OwnWalk
import Derived.StillTailTactics
import Derived.Laws.MakeOwn
import Derived.Laws.OwnMore
import Derived.Laws.Rows
import Derived.Deep.AppendLies
import Derived.Deep.Draws
import Derived.Maps.AppendAt
import Derived.ChangeOld
import Derived.OpenShut
import Derived.Deep.Slices
import Derived.Deep.Fields
namespace Go.Proofs.YtjiobgfaohldhaaGreat
open Go.RowKit

theorem ret_bool {a b : Bool} (h : a = b) : Ending.returned (.bool a) = Ending.returned (.bool b) := by rw [h]
theorem ret_int {a b : Int} (h : a = b) : Ending.returned (.int .i64 a) = Ending.returned (.int .i64 b) := by rw [h]
theorem hide {p : Prop} (h : p) : Hid p := h

/-- A type of Go data: how many cells a value takes, and when cells in a world read as a datum; the blocks that are reached are among S. -/
structure Ty (α : Type) where
  size : Nat
  rel : World → (Nat → Prop) → α → List Value → Prop
  len : ∀ {w S x cs}, rel w S x cs → cs.length = size
  one : ∀ {w S x cs}, rel w S x cs → ∀ u ∈ cs, u.oneCell' = true
  mono : ∀ {w w' S S' x cs}, rel w S x cs → (∀ b, S b → S' b) → (∀ b, S b → w'.heap[b]? = w.heap[b]?) → rel w' S' x cs

/-- Blocks that lie in a world. -/
def Old (w : World) (b : Nat) : Prop := b < w.heap.size
/-- Blocks from lo on and below hi. -/
def In (lo hi : Nat) (b : Nat) : Prop := lo ≤ b ∧ b < hi

/-- A row of elements in block b from place off on. -/
def RowAt {α : Type} (T : Ty α) (w : World) (S : Nat → Prop) (b off : Nat) (xs : List α) : Prop :=
  ∀ k (h : k < xs.length), ∃ cs, T.rel w S xs[k] cs ∧ ∀ j u, cs[j]? = some u → w.cell? ⟨b, off + k * T.size + j, none⟩ = some u
/-- A row of elements that a slice leads to. -/
def Row {α : Type} (T : Ty α) (w : World) (S : Nat → Prop) (A : Option Addr) (xs : List α) : Prop :=
  0 < xs.length → ∃ b off, A = some ⟨b, off, none⟩ ∧ S b ∧ RowAt T w S b off xs

theorem RowAt.mono {α : Type} {T : Ty α} {w w' : World} {S S' : Nat → Prop} {b off : Nat} {xs : List α} (h : RowAt T w S b off xs)
    (h2 : ∀ b, S b → S' b) (h3 : ∀ b, S b → w'.heap[b]? = w.heap[b]?) (h4 : w'.heap[b]? = w.heap[b]?) : RowAt T w' S' b off xs := fun k hk => by
  obtain ⟨cs, hr, hcs⟩ := h k hk
  exact ⟨cs, T.mono hr h2 h3, fun j u hu => (World.cell?_of_block h4).trans (hcs j u hu)⟩
theorem Row.mono {α : Type} {T : Ty α} {w w' : World} {S S' : Nat → Prop} {A : Option Addr} {xs : List α} (h : Row T w S A xs)
    (h2 : ∀ b, S b → S' b) (h3 : ∀ b, S b → w'.heap[b]? = w.heap[b]?) : Row T w' S' A xs := fun hp => by
  obtain ⟨b, off, rfl, hb, hc⟩ := h hp
  exact ⟨b, off, rfl, h2 b hb, hc.mono h2 h3 (h3 b hb)⟩
theorem Row.old {α : Type} {T : Ty α} {w w' : World} {A : Option Addr} {xs : List α} (h : Row T w (Old w) A xs) (hb : Below w.heap.size w w') : Row T w' (Old w') A xs :=
  h.mono (fun _ hx => Nat.lt_of_lt_of_le hx hb.size) fun _ hx => hb.block _ hx
theorem Row.nil {α : Type} {T : Ty α} {w : World} {S : Nat → Prop} {A : Option Addr} : Row T w S A [] := fun h => absurd h (by simp)

def flat {α : Type} (size : Nat) (enc : α → List Value) (hl : ∀ x, (enc x).length = size) (h1 : ∀ x, ∀ u ∈ enc x, u.oneCell' = true) : Ty α where
  size := size
  rel _ _ x cs := cs = enc x
  len h := by rw [h]; exact hl _
  one h := by rw [h]; exact h1 _
  mono h _ _ := h

def tInt : Ty Int := flat 1 (fun n => [.int .i64 n]) (fun _ => rfl) (fun _ u hu => by simp at hu; subst hu; rfl)

/-- A slice value reads as a list. -/
def Sl {α : Type} (T : Ty α) (w : World) (S : Nat → Prop) (xs : List α) (v : Value) : Prop :=
  ∃ A c, v = .slice A xs.length c ∧ xs.length ≤ c ∧ c ≤ maxLen ∧ Row T w S A xs
theorem Sl.mono {α : Type} {T : Ty α} {w w' : World} {S S' : Nat → Prop} {v : Value} {xs : List α} (h : Sl T w S xs v)
    (h2 : ∀ b, S b → S' b) (h3 : ∀ b, S b → w'.heap[b]? = w.heap[b]?) : Sl T w' S' xs v := by
  obtain ⟨A, c, rfl, h4, h5, h6⟩ := h; exact ⟨A, c, rfl, h4, h5, h6.mono h2 h3⟩
theorem Sl.old {α : Type} {T : Ty α} {w w' : World} {v : Value} {xs : List α} (h : Sl T w (Old w) xs v) (hb : Below w.heap.size w w') : Sl T w' (Old w') xs v :=
  h.mono (fun _ hx => Nat.lt_of_lt_of_le hx hb.size) fun _ hx => hb.block _ hx
def tSlice {α : Type} (T : Ty α) : Ty (List α) where
  size := 1
  rel w S xs cs := ∃ v, cs = [v] ∧ Sl T w S xs v
  len h := by obtain ⟨v, rfl, _⟩ := h; rfl
  one h u hu := by obtain ⟨v, rfl, A, c, rfl, _⟩ := h; simp at hu; subst hu; rfl
  mono h h2 h3 := by obtain ⟨v, rfl, h4⟩ := h; exact ⟨v, rfl, h4.mono h2 h3⟩

structure Span where
  From : Int
  To : Int
structure Op where
  Kind : Int
  Key : Int
  Value : Int
structure Edge where
  From : Int
  To : Int
  Kind : Int
structure Txn where
  Session : Int
  Ops : List Op
  Done : Bool

def tSpan : Ty Span := flat 2 (fun s => [.int .i64 s.From, .int .i64 s.To]) (fun _ => rfl) (fun _ u hu => by simp at hu; rcases hu with rfl | rfl <;> rfl)
def tOp : Ty Op := flat 3 (fun s => [.int .i64 s.Kind, .int .i64 s.Key, .int .i64 s.Value]) (fun _ => rfl) (fun _ u hu => by simp at hu; rcases hu with rfl | rfl | rfl <;> rfl)
def tEdge : Ty Edge := flat 3 (fun s => [.int .i64 s.From, .int .i64 s.To, .int .i64 s.Kind]) (fun _ => rfl) (fun _ u hu => by simp at hu; rcases hu with rfl | rfl | rfl <;> rfl)
def tTxn : Ty Txn where
  size := 3
  rel w S x cs := ∃ v, cs = [.int .i64 x.Session, v, .bool x.Done] ∧ Sl tOp w S x.Ops v
  len h := by obtain ⟨A, rfl, _⟩ := h; rfl
  one h u hu := by
    obtain ⟨v, rfl, A, c, rfl, _⟩ := h
    simp at hu
    rcases hu with rfl | rfl | rfl <;> rfl
  mono h h2 h3 := by obtain ⟨v, rfl, h4⟩ := h; exact ⟨v, rfl, h4.mono h2 h3⟩

/-! ### Blocks that are known whole; slices of the call's own -/
def Blk (w : World) (g : Nat) (t : TypeId) (cs : Array Value) : Prop := w.heap[g]? = some (.cells cs t (0, 0))
section
variable {w w' : World} {g : Nat} {t : TypeId} {cs : Array Value}
theorem Blk.lt (h : Blk w g t cs) : g < w.heap.size := by
  rcases Nat.lt_or_ge g w.heap.size with hlt | hge
  · exact hlt
  · unfold Blk at h; rw [Array.getElem?_eq_none hge] at h; cases h
theorem Blk.cell (h : Blk w g t cs) (i : Nat) : w.cell? ⟨g, i, none⟩ = cs[i]? := cell_of_row w g i cs t (0, 0) h
theorem Blk.frozen (h : Blk w g t cs) (i : Nat) : w.frozen? ⟨g, i, none⟩ = false := by
  unfold Blk at h
  simp [World.frozen?, h]
theorem Blk.new (w : World) (t : TypeId) (cs : Array Value) : Blk (w.alloc (.cells cs t)) w.heap.size t cs := heap_alloc_new w _
theorem Blk.of (h : Blk w g t cs) (e : w'.heap[g]? = w.heap[g]?) : Blk w' g t cs := e.trans h
theorem Blk.alloc (h : Blk w g t cs) (o : Obj) : Blk (w.alloc o) g t cs := (Below.heap_alloc w o g h.lt).trans h
theorem Blk.set_ (h : Blk w g t cs) (i : Nat) (u : Value) : Blk (w.setCell ⟨g, i, none⟩ u) g t (cs.setIfInBounds i u) := by
  unfold Blk at h ⊢
  simp [World.setCell, Array.getElem?_modify, h]
theorem Blk.far (h : Blk w g t cs) {p : Addr} (hp : g ≠ p.block) (u : Value) : Blk (w.setCell p u) g t cs := (Below.heap_setCell w p u g hp).trans h
theorem Blk.below {B : Nat} (h : Blk w g t cs) (hb : Below B w w') (hg : g < B) : Blk w' g t cs := (hb.block g hg).trans h
theorem Blk.ne_ {g' : Nat} {t' : TypeId} {cs' : Array Value} (h : Blk w g t cs) (h' : Blk w g' t' cs') (hne : t ≠ t') : g ≠ g' := by
  rintro rfl
  unfold Blk at h h'
  rw [h] at h'
  injection h' with h'
  injection h' with _ ht
  exact hne ht
/-- A cell of a block that is known whole: there, and not frozen. -/
theorem Blk.there (h : Blk w g t cs) {i : Nat} (hi : i < cs.size) : (∃ u, w.cell? ⟨g, i, none⟩ = some u) ∧ w.frozen? ⟨g, i, none⟩ = false :=
  ⟨⟨cs[i], by rw [h.cell, Array.getElem?_eq_getElem hi]⟩, h.frozen i⟩
end
/-- Behind a call that only makes memory all old cells and marks read as before. -/
theorem bcell {W w1 : World} (hb : Below W.heap.size W w1) : (∀ b o, b < W.heap.size → w1.cell? ⟨b, o, none⟩ = W.cell? ⟨b, o, none⟩) ∧ (∀ b o, b < W.heap.size → w1.frozen? ⟨b, o, none⟩ = W.frozen? ⟨b, o, none⟩) :=
  ⟨fun b o h => hb.cell (p := ⟨b, o, none⟩) h, fun b o h => hb.frozen (p := ⟨b, o, none⟩) h⟩
theorem below_drewN {B : Nat} {a w : World} (h : Below B a w) (n : Nat) : Below B a (w.drewN n) := ⟨h.os, h.tape, h.output, h.size, h.block⟩

/-- A slice of the call's own: it reads as xs, its block is known whole, and what its elements lead to lies elsewhere. -/
def Own {α : Type} (T : Ty α) (e : TypeId) (w : World) (S : Nat → Prop) (xs : List α) (v : Value) : Prop :=
  (v = .slice none 0 0 ∧ xs = []) ∨
  ∃ g cap cur S', v = .slice (some ⟨g, 0, none⟩) xs.length cap ∧ S g ∧ Blk w g e cur ∧ xs.length ≤ cap ∧ cap ≤ maxLen ∧ cur.size = cap * T.size ∧
    (∀ b, S' b → S b ∧ b ≠ g) ∧ RowAt T w S' g 0 xs
theorem Own.sl {α : Type} {T : Ty α} {e : TypeId} {w : World} {S : Nat → Prop} {xs : List α} {v : Value} (h : Own T e w S xs v) : Sl T w S xs v := by
  rcases h with ⟨rfl, rfl⟩ | ⟨g, cap, cur, S', rfl, hg, hB, h1, h2, h3, h4, h5⟩
  · exact ⟨none, 0, rfl, by simp, by simp [maxLen], Row.nil⟩
  · exact ⟨some ⟨g, 0, none⟩, cap, rfl, h1, h2, fun _ => ⟨g, 0, rfl, hg, h5.mono (fun b hb => (h4 b hb).1) (fun _ _ => rfl) rfl⟩⟩
theorem Own.mono {α : Type} {T : Ty α} {e : TypeId} {w w' : World} {S S2 : Nat → Prop} {xs : List α} {v : Value} (h : Own T e w S xs v) (h1 : ∀ b, S b → S2 b) (h2 : ∀ b, S b → w'.heap[b]? = w.heap[b]?) : Own T e w' S2 xs v := by
  rcases h with h | ⟨g, cap, cur, S', rfl, hg, hB, h3, h4, h5, h6, h7⟩
  · exact .inl h
  · exact .inr ⟨g, cap, cur, S', rfl, h1 g hg, hB.of (h2 g hg), h3, h4, h5, fun b hb => ⟨h1 b (h6 b hb).1, (h6 b hb).2⟩, h7.mono (fun _ h => h) (fun b hb => h2 b (h6 b hb).1) (h2 g hg)⟩
theorem Own.setLow {α : Type} {T : Ty α} {e : TypeId} {w : World} {S : Nat → Prop} {xs : List α} {v : Value} {n : Nat} (h : Own T e w S xs v) (hS : ∀ b, S b → n ≤ b) {p : Addr} (hp : p.block < n) (u : Value) : Own T e (w.setCell p u) S xs v :=
  h.mono (fun _ h => h) fun b hb => Below.heap_setCell _ _ _ _ (by have := hS b hb; omega)
/-- What a call hands back lies in blocks that it made. -/
def New (w w' : World) (b : Nat) : Prop := w.heap.size ≤ b ∧ b < w'.heap.size
theorem New.old {w w' : World} {b : Nat} (h : New w w' b) : Old w' b := h.2
theorem Own.old {α : Type} {T : Ty α} {e : TypeId} {w w' : World} {xs : List α} {v : Value} (h : Own T e w' (New w w') xs v) : Sl T w' (Old w') xs v :=
  h.sl.mono (fun _ hb => hb.2) fun _ _ => rfl

/-- One step of filling a made row whose first k elements are there. -/
theorem RowAt.snoc {α : Type} {T : Ty α} {w w' : World} {S S' : Nat → Prop} {b off k : Nat} {xs : List α} (hk : k < xs.length) (h : RowAt T w S b off (xs.take k))
    (hS : ∀ b, S b → S' b) (hw : ∀ b, S b → w'.heap[b]? = w.heap[b]?)
    (hold : ∀ j, j < k * T.size → w'.cell? ⟨b, off + j, none⟩ = w.cell? ⟨b, off + j, none⟩)
    (hnew : ∃ cs, T.rel w' S' xs[k] cs ∧ ∀ j u, cs[j]? = some u → w'.cell? ⟨b, off + k * T.size + j, none⟩ = some u) : RowAt T w' S' b off (xs.take (k + 1)) := fun i hi => by
  rw [List.length_take] at hi
  rcases Nat.lt_or_ge i k with hlt | hge
  · obtain ⟨cs, hr, hcs⟩ := h i (by rw [List.length_take]; omega)
    refine ⟨cs, ?_, fun j u hu => ?_⟩
    · have e : (xs.take (k + 1))[i]'(by rw [List.length_take]; omega) = (xs.take k)[i]'(by rw [List.length_take]; omega) := by simp
      rw [e]
      exact T.mono hr hS hw
    · have hj : j < T.size := by rw [← T.len hr]; exact (List.getElem?_eq_some_iff.1 hu).1
      have h1 : i * T.size + j < k * T.size := by
        have : (i + 1) * T.size ≤ k * T.size := Nat.mul_le_mul_right _ hlt
        rw [Nat.add_mul] at this
        omega
      rw [Nat.add_assoc, hold _ h1, ← Nat.add_assoc]
      exact hcs j u hu
  · obtain rfl : i = k := by omega
    simpa using hnew
theorem RowAt.zero {α : Type} {T : Ty α} {w : World} {S : Nat → Prop} {b off : Nat} : RowAt T w S b off ([] : List α) := fun _ h => absurd h (by simp)
theorem RowAt.take0 {α : Type} {T : Ty α} {w : World} {S : Nat → Prop} {b off : Nat} {xs : List α} : RowAt T w S b off (xs.take 0) := fun _ h => absurd h (by simp)

/-- What is known of a row that is being filled: block g whole, room for n elements, the first k of xs there. -/
structure Filling {α : Type} (T : Ty α) (e : TypeId) (w : World) (S : Nat → Prop) (g n k : Nat) (xs : List α) : Prop where
  ex : ∃ cur, Blk w g e cur ∧ cur.size = n * T.size
  row : RowAt T w S g 0 (xs.take k)
  ne : ¬ S g
theorem Filling.later {α : Type} {T : Ty α} {e : TypeId} {w w' : World} {S S' : Nat → Prop} {g n k : Nat} {xs : List α} (h : Filling T e w S g n k xs)
    (hb : Below w.heap.size w w') (hS : ∀ b, S b → S' b) (hO : ∀ b, S b → Old w b) (hg : ¬ S' g) : Filling T e w' S' g n k xs := by
  obtain ⟨⟨cur, hB, hc⟩, hr, _⟩ := h
  exact ⟨⟨cur, hB.below hb hB.lt, hc⟩, hr.mono hS (fun b h => hb.block b (hO b h)) (hb.block g hB.lt), hg⟩
theorem Filling.there {α : Type} {T : Ty α} {e : TypeId} {w : World} {S : Nat → Prop} {g n k : Nat} {xs : List α} (h : Filling T e w S g n k xs) {i : Nat} (hi : i < n * T.size) :
    (∃ u, w.cell? ⟨g, i, none⟩ = some u) ∧ w.frozen? ⟨g, i, none⟩ = false := by
  obtain ⟨⟨cur, hB, hc⟩, _, _⟩ := h
  exact hB.there (by omega)
theorem far_ {w : World} {S : Nat → Prop} {g i x : Nat} {a : Value} (h : ¬ S g) (hx : S x) : (w.setCell ⟨g, i, none⟩ a).heap[x]? = w.heap[x]? :=
  Below.heap_setCell _ _ _ _ (by rintro rfl; exact h hx)
theorem Filling.put1 {α : Type} {T : Ty α} {e : TypeId} {w : World} {S : Nat → Prop} {g n k : Nat} {xs : List α} (h : Filling T e w S g n k xs) (h1 : T.size = 1) (hk : k < xs.length) (hn : k < n)
    (a : Value) (hr : T.rel w S xs[k] [a]) : Filling T e (w.setCell ⟨g, k, none⟩ a) S g n (k + 1) xs := by
  obtain ⟨⟨cur, hB, hc⟩, hrow, hS⟩ := h
  have hB2 := hB.set_ (k) a
  have hw : ∀ x, S x → (w.setCell ⟨g, k, none⟩ a).heap[x]? = w.heap[x]? := fun x hx => far_ hS hx
  refine ⟨⟨_, hB2, by simpa using hc⟩, hrow.snoc hk (fun _ h => h) hw (fun j hj => ?_) ⟨_, T.mono hr (fun _ h => h) hw, fun j u hu => ?_⟩, hS⟩
  · rw [h1] at hj
    rw [hB2.cell, hB.cell, Array.getElem?_setIfInBounds_ne (by omega)]
  · obtain ⟨hj, rfl⟩ := List.getElem?_eq_some_iff.1 hu
    rw [hB2.cell, h1]
    rw [h1] at hc
    have hj : j < 1 := hj
    match j, hj with
    | 0, _ => simp [Array.getElem?_setIfInBounds]; omega
theorem Filling.put3 {α : Type} {T : Ty α} {e : TypeId} {w : World} {S : Nat → Prop} {g n k : Nat} {xs : List α} (h : Filling T e w S g n k xs) (h1 : T.size = 3) (hk : k < xs.length) (hn : k < n)
    (a b c : Value) (hr : T.rel w S xs[k] [a, b, c]) : Filling T e (((w.setCell ⟨g, k * 3, none⟩ a).setCell ⟨g, k * 3 + 1, none⟩ b).setCell ⟨g, k * 3 + 2, none⟩ c) S g n (k + 1) xs := by
  obtain ⟨⟨cur, hB, hc⟩, hrow, hS⟩ := h
  have hB2 := ((hB.set_ (k * 3) a).set_ (k * 3 + 1) b).set_ (k * 3 + 2) c
  have hw : ∀ x, S x → (((w.setCell ⟨g, k * 3, none⟩ a).setCell ⟨g, k * 3 + 1, none⟩ b).setCell ⟨g, k * 3 + 2, none⟩ c).heap[x]? = w.heap[x]? := fun x hx => ((far_ hS hx).trans (far_ hS hx)).trans (far_ hS hx)
  refine ⟨⟨_, hB2, by simpa using hc⟩, hrow.snoc hk (fun _ h => h) hw (fun j hj => ?_) ⟨_, T.mono hr (fun _ h => h) hw, fun j u hu => ?_⟩, hS⟩
  · rw [h1] at hj
    rw [hB2.cell, hB.cell, Array.getElem?_setIfInBounds_ne (by omega), Array.getElem?_setIfInBounds_ne (by omega), Array.getElem?_setIfInBounds_ne (by omega)]
  · obtain ⟨hj, rfl⟩ := List.getElem?_eq_some_iff.1 hu
    rw [hB2.cell, h1]
    rw [h1] at hc
    have hj : j < 3 := hj
    match j, hj with
    | 0, _ => simp [Array.getElem?_setIfInBounds]; omega
    | 1, _ => simp [Array.getElem?_setIfInBounds]; omega
    | 2, _ => simp [Array.getElem?_setIfInBounds]; omega
/-- A row that has been filled is a slice of the call's own. -/
theorem Filling.own {α : Type} {T : Ty α} {e : TypeId} {w : World} {S S' : Nat → Prop} {g n : Nat} {xs : List α} (h : Filling T e w S g n xs.length xs) (hn : n = xs.length) (hm : n ≤ maxLen) (hg : S' g) (hS : ∀ b, S b → S' b) :
    Own T e w S' xs (.slice (some ⟨g, 0, none⟩) n n) := by
  subst hn
  obtain ⟨⟨cur, hB, hc⟩, hrow, hne⟩ := h
  exact .inr ⟨g, _, cur, S, rfl, hg, hB, Nat.le_refl _, hm, hc, fun b hb => ⟨hS b hb, fun e => hne (e ▸ hb)⟩, by simpa using hrow⟩

theorem run_make_rowN {P : Program} (t e : TypeId) (i : TypeInfo) (z : Value) (ht : P.underlying t = some (.slice e)) (hi : P.info? e = some i) (hz : i.zero = some z)
    (kl kc : IntKind) (n c : Nat) (hnc : n ≤ c) (hbytes : i.bytes * c ≤ 281474976710656) (h63 : c ≤ 9223372036854775807) (w : World) :
    (Instr.makeSlice t (.int kl (n : Int)) (.int kc (c : Int))).run P w = .ok (.slice (some ⟨w.heap.size, 0, none⟩) n c) (w.alloc (.cells (madeCells z.cells (c * i.size)) e)) := by
  have hb : (i.bytes : Int) * (c : Int) ≤ 281474976710656 := by
    have h : ((i.bytes * c : Nat) : Int) ≤ 281474976710656 := by omega
    rwa [Int.natCast_mul] at h
  have hr := run_make (P := P) w t e i z ht hi hz kl kc n c (by omega) (by omega) hb (by omega)
  simp only [Int.toNat_natCast] at hr
  exact hr
/-- A row that 'make' has just laid. -/
theorem Filling.made {α : Type} {T : Ty α} {e : TypeId} (w : World) (z : Array Value) (m n : Nat) (xs : List α) (S : Nat → Prop) (hm : m = n * T.size) (hS : ¬ S w.heap.size) :
    Filling T e (w.alloc (.cells (madeCells z m) e)) S w.heap.size n 0 xs :=
  ⟨⟨_, Blk.new _ _ _, by unfold madeCells; simp [hm]⟩, RowAt.take0, hS⟩

theorem RowAt.imp {α : Type} {T T' : Ty α} {w : World} {S : Nat → Prop} {b off : Nat} {xs : List α} (h : RowAt T w S b off xs) (hs : T.size = T'.size)
    (hi : ∀ x cs, T.rel w S x cs → T'.rel w S x cs) : RowAt T' w S b off xs := fun k hk => by
  obtain ⟨cs, hr, hc⟩ := h k hk
  exact ⟨cs, hi _ _ hr, by rw [← hs]; exact hc⟩
theorem Own.weak {α : Type} {T T' : Ty α} {e : TypeId} {w : World} {S : Nat → Prop} {xs : List α} {v : Value} (h : Own T e w S xs v) (hs : T.size = T'.size)
    (hi : ∀ S x cs, T.rel w S x cs → T'.rel w S x cs) : Own T' e w S xs v := by
  rcases h with h | ⟨g, cap, cur, S', rfl, hg, hB, h1, h2, h3, h4, h5⟩
  · exact .inl h
  · exact .inr ⟨g, cap, cur, S', rfl, hg, hB, h1, h2, by rw [← hs]; exact h3, h4, h5.imp hs (hi S')⟩
def tIntSO (e : TypeId) : Ty (List Int) where
  size := 1
  rel w S xs cs := ∃ v, cs = [v] ∧ Own tInt e w S xs v
  len h := by obtain ⟨v, rfl, _⟩ := h; rfl
  one h u hu := by obtain ⟨v, rfl, h2⟩ := h; obtain ⟨A, c, rfl, _⟩ := h2.sl; simp at hu; subst hu; rfl
  mono h h2 h3 := by obtain ⟨v, rfl, h4⟩ := h; exact ⟨v, rfl, h4.mono h2 h3⟩
def tTxnO (e : TypeId) : Ty Txn where
  size := 3
  rel w S x cs := ∃ v, cs = [.int .i64 x.Session, v, .bool x.Done] ∧ Own tOp e w S x.Ops v
  len h := by obtain ⟨A, rfl, _⟩ := h; rfl
  one h u hu := by
    obtain ⟨v, rfl, h2⟩ := h
    obtain ⟨A, c, rfl, _⟩ := h2.sl
    simp at hu
    rcases hu with rfl | rfl | rfl <;> rfl
  mono h h2 h3 := by obtain ⟨v, rfl, h4⟩ := h; exact ⟨v, rfl, h4.mono h2 h3⟩
theorem Own.weakIntS {e e' : TypeId} {w : World} {S : Nat → Prop} {xs : List (List Int)} {v : Value} (h : Own (tIntSO e) e' w S xs v) : Own (tSlice tInt) e' w S xs v :=
  h.weak rfl fun _ _ _ ⟨v, h1, h2⟩ => ⟨v, h1, h2.sl⟩
theorem Own.weakTxn {e e' : TypeId} {w : World} {S : Nat → Prop} {xs : List Txn} {v : Value} (h : Own (tTxnO e) e' w S xs v) : Own tTxn e' w S xs v :=
  h.weak rfl fun _ _ _ ⟨v, h1, h2⟩ => ⟨v, h1, h2.sl⟩

/-! ### Sizes -/
def Sz (total : Nat) (left r : Int) : Prop := r = -1 ∨ (0 ≤ r ∧ r + total = left)
def tot {α : Type} (f : α → Nat) (xs : List α) : Nat := (xs.map f).sum
theorem tot_take {α : Type} (f : α → Nat) (xs : List α) (k : Nat) (h : k < xs.length) : tot f (xs.take (k + 1)) = tot f (xs.take k) + f xs[k] := by
  unfold tot
  rw [List.take_succ_eq_append_getElem h, List.map_append, List.sum_append]
  simp
theorem tot_le {α : Type} (f : α → Nat) (xs : List α) : ∀ x ∈ xs, f x ≤ tot f xs := by
  unfold tot
  induction xs with
  | nil => simp
  | cons y ys ih =>
    intro x hx
    simp only [List.map_cons, List.sum_cons]
    rcases List.mem_cons.1 hx with rfl | h
    · omega
    · have := ih x h; omega
theorem tot_mono {α : Type} (f : α → Nat) (xs : List α) (k : Nat) : tot f (xs.take k) ≤ tot f xs := by
  have h : tot f (xs.take k) + tot f (xs.drop k) = tot f xs := by
    unfold tot
    rw [← List.sum_append, ← List.map_append, List.take_append_drop]
  omega

/-- The first k elements all pass. -/
def Upto {α : Type} (p : α → Bool) (xs : List α) (k : Nat) : Prop := ∀ j (hj : j < xs.length), j < k → p xs[j] = true
theorem Upto.zero {α : Type} {p : α → Bool} {xs : List α} : Upto p xs 0 := fun _ _ h => absurd h (by omega)
theorem Upto.succ {α : Type} {p : α → Bool} {xs : List α} {k : Nat} (h : Upto p xs k) (hk : k < xs.length) (hp : p xs[k] = true) : Upto p xs (k + 1) := fun j hj h1 => by
  rcases Nat.lt_succ_iff_lt_or_eq.1 h1 with h2 | rfl
  · exact h j hj h2
  · exact hp
theorem Upto.all {α : Type} {p : α → Bool} {xs : List α} (h : Upto p xs xs.length) : xs.all p = true := by
  rw [List.all_eq_true]
  intro x hx
  obtain ⟨j, hj, rfl⟩ := List.getElem_of_mem hx
  exact h j hj hj
theorem all_false {α : Type} {p : α → Bool} {xs : List α} {k : Nat} (hk : k < xs.length) (hp : p xs[k] = false) : xs.all p = false := by
  rw [List.all_eq_false]
  exact ⟨_, List.getElem_mem hk, by simp [hp]⟩
/-- A number lies in a range. -/
def inR (n lo hi : Int) : Bool := decide (lo ≤ n) && decide (n ≤ hi)
theorem inR_iff {n lo hi : Int} : inR n lo hi = true ↔ lo ≤ n ∧ n ≤ hi := by simp [inR]

/-- What is asked of a function value that is a predicate and may lay blocks of its own. -/
def Pred (P : Program) (g : Nat) (lb : Array Value) (w : World) (v : Value) (q : Bool) : Prop :=
  ∀ W : World, Below w.heap.size w W → Calls P g (#[v] ++ lb) W fun e w' => e = .returned (.bool q) ∧ Below w.heap.size w w'
def one_ : List Value → Value
  | [v] => v
  | l => .agg l.toArray

/-- The first place of a list whose element a predicate takes, or -1. -/
def idx {α : Type} (p : α → Bool) : List α → Int
  | [] => -1
  | x :: xs => if p x then 0 else (match idx p xs with | .ofNat n => .ofNat (n + 1) | .negSucc n => .negSucc n)
theorem idx_neg {α : Type} (p : α → Bool) (xs : List α) : (0 ≤ idx p xs) ↔ xs.any p = true := by
  induction xs with
  | nil => simp [idx]
  | cons x xs ih =>
    by_cases h : p x = true
    · simp [idx, h]
    · simp only [idx, h, List.any_cons, Bool.false_or, ← ih]
      cases idx p xs with
      | ofNat n => simp; omega
      | negSucc n => simp
theorem idx_hit {α : Type} (p : α → Bool) : ∀ (xs : List α) (k : Nat) (h : k < xs.length), p xs[k] = true → (∀ j (hj : j < xs.length), j < k → p xs[j] = false) → idx p xs = k
  | [], k, h, _, _ => absurd h (by simp)
  | x :: xs, 0, h, hp, _ => by simp at hp; simp [idx, hp]
  | x :: xs, k + 1, h, hp, hb => by
    have h0 : p x = false := hb 0 (by simp) (by omega)
    have h1 := idx_hit p xs k (by simpa using h) (by simpa using hp) (fun j hj hk => by have := hb (j + 1) (by simpa using hj) (by omega); simpa using this)
    simp only [idx, h0, h1]
    rfl
theorem idx_miss {α : Type} (p : α → Bool) (xs : List α) (h : ∀ j (hj : j < xs.length), p xs[j] = false) : idx p xs = -1 := by
  induction xs with
  | nil => rfl
  | cons x xs ih =>
    have h0 : p x = false := h 0 (by simp)
    have h1 := ih (fun j hj => by have := h (j + 1) (by simpa using hj); simpa using this)
    simp only [idx, h0, h1]
    rfl
end Go.Proofs.YtjiobgfaohldhaaGreat
namespace Go.Proofs.YtjiobgfaohldhaaGreat
open Go.RowKit Go.ChangeShapes Go.WideShapes Go.Deep

theorem list_of_each {α : Type} (Q : Nat → α → Prop) : ∀ n : Nat, (∀ i, i < n → ∃ x, Q i x) → ∃ xs : List α, xs.length = n ∧ ∀ i (h : i < xs.length), Q i xs[i]
  | 0, _ => ⟨[], rfl, fun _ h => absurd h (by simp)⟩
  | n + 1, h => by
    obtain ⟨xs, hl, hx⟩ := list_of_each Q n (fun i hi => h i (by omega))
    obtain ⟨x, hq⟩ := h n (by omega)
    refine ⟨xs ++ [x], by simp [hl], fun i hi => ?_⟩
    rw [List.length_append] at hi
    simp only [List.length_cons, List.length_nil] at hi
    rcases Nat.lt_or_ge i xs.length with h1 | h1
    · rw [List.getElem_append_left h1]; exact hx i h1
    · obtain rfl : i = n := by omega
      simp [List.getElem_append_right, hl, hq]

section
variable {H : Type} {enc : TypeId × Value → H} {P : Program} {w : World} {base : Nat} {spare : Nat → Bool} {held : Bool}

theorem sl_of_trod {α : Type} (T : Ty α) {t e : TypeId} {fuel : Nat} {cs : List Value} {y : DataW H × List MemPlace} (ht : P.underlying t = some (.slice e)) (hC : P.cellsOf e = T.size) (hT : 0 < T.size)
    (he : ∀ n cs y, DataW.trod enc P w base spare held n e cs = some y → ∃ x, T.rel w (Old w) x cs) (h : DataW.trod enc P w base spare held fuel t cs = some y) : ∃ xs v, cs = [v] ∧ Sl T w (Old w) xs v := by
  rcases open_slice ht h with ⟨rfl, _⟩ | ⟨a, len, cap, m, n, D, Pl, rfl, _, hl, hm, hmm, _, hi⟩
  · exact ⟨[], _, rfl, none, 0, rfl, by simp, by simp [maxLen], Row.nil⟩
  · have hlm : len ≤ m := by rw [hmm]; split <;> omega
    obtain ⟨xs, hxl, hx⟩ := list_of_each (fun i x => ∃ cs', T.rel w (Old w) x cs' ∧ ∀ j, j < T.size → w.cell? ((a.add (i * T.size)).add j) = cs'[j]?) len (fun i hil => by
      obtain ⟨cs', hc, ht'⟩ := hi i (by omega)
      obtain ⟨_, _, hat⟩ := World.cells?_some hc
      obtain ⟨x, hr⟩ := he _ _ _ ht'
      rw [hC] at hat
      exact ⟨x, cs', hr, hat⟩)
    subst hxl
    refine ⟨xs, _, rfl, some a, cap, rfl, hl, hm, fun hp => ?_⟩
    obtain ⟨cs0, hr0, h0⟩ := hx 0 hp
    have hlen0 := T.len hr0
    have hcell0 := h0 0 hT
    rw [List.getElem?_eq_getElem (by omega)] at hcell0
    simp only [Nat.zero_mul] at hcell0
    have ha0 : (a.add 0).add 0 = a := by simp [Addr.add]
    rw [ha0] at hcell0
    obtain ⟨b, off, spot⟩ := a
    have hspot : spot = none := by simpa using World.cell?_spot hcell0
    subst hspot
    refine ⟨b, off, rfl, World.block_lt_of_cell? w _ hcell0, fun k hk => ?_⟩
    obtain ⟨cs', hr, hat⟩ := hx k hk
    refine ⟨cs', hr, fun j u hu => ?_⟩
    have hj : j < T.size := by rw [← T.len hr]; exact (List.getElem?_eq_some_iff.1 hu).1
    have h1 := hat j hj
    rw [Go.WideShapes.add_plain, Go.WideShapes.add_plain] at h1
    rw [h1, hu]

theorem elemInt {e : TypeId} (he : P.underlying e = some (.int .i64)) : ∀ n cs y, DataW.trod enc P w base spare held n e cs = some y → ∃ x, tInt.rel w (Old w) x cs := fun _ _ _ h => by
  obtain ⟨n, rfl, _, _⟩ := DataW.trod_int he h
  exact ⟨n, rfl⟩
theorem elemIntS {t e : TypeId} (ht : P.underlying t = some (.slice e)) (hC : P.cellsOf e = 1) (he : P.underlying e = some (.int .i64)) :
    ∀ n cs y, DataW.trod enc P w base spare held n t cs = some y → ∃ x, (tSlice tInt).rel w (Old w) x cs := fun _ _ _ h => by
  obtain ⟨xs, v, rfl, hs⟩ := sl_of_trod tInt ht hC (by decide) (elemInt he) h
  exact ⟨xs, v, rfl, hs⟩
/-- A struct's fields, each by its own reading. -/
theorem fields_of_trod {t : TypeId} {fs : Array Field} {fuel : Nat} {cs : List Value} {y : DataW H × List MemPlace} (he : P.underlying t = some (.struct fs)) (h : DataW.trod enc P w base spare held fuel t cs = some y) :
    cs.length = P.cellsOf t ∧ ∀ (i : Nat) (f : Field), fs[i]? = some f → ∃ n z, DataW.trod enc P w base spare held n f.type ((cs.drop f.offset).take (P.cellsOf f.type)) = some z := by
  obtain ⟨ys, n, _, _, hlen, hyl, hf⟩ := DataW.trod_struct he h
  refine ⟨hlen, fun i f hi => ?_⟩
  have hil : i < fs.size := (Array.getElem?_eq_some_iff.1 hi).1
  exact ⟨n, ys[i]'(by omega), by rw [hf i f hi, List.getElem?_eq_getElem]⟩
theorem len3 {α : Type} {l : List α} (h : l.length = 3) : ∃ a b c, l = [a, b, c] := by match l, h with | [a, b, c], _ => exact ⟨a, b, c, rfl⟩
theorem intField {cs : List Value} {v : Value} {t : TypeId} {n : Nat} {z : DataW H × List MemPlace} (ht : P.underlying t = some (.int .i64)) (hcs : cs = [v]) (h : DataW.trod enc P w base spare held n t cs = some z) : ∃ x, v = .int .i64 x := by
  subst hcs
  obtain ⟨x, hx, _, _⟩ := DataW.trod_int ht h
  exact ⟨x, by simpa using hx⟩
theorem boolField {cs : List Value} {v : Value} {t : TypeId} {n : Nat} {z : DataW H × List MemPlace} (ht : P.underlying t = some .bool) (hcs : cs = [v]) (h : DataW.trod enc P w base spare held n t cs = some z) : ∃ x, v = .bool x := by
  subst hcs
  obtain ⟨x, hx, _⟩ := DataW.trod_bool ht h
  exact ⟨x, by simpa using hx⟩
variable {i64 : TypeId}
theorem elem3 {t : TypeId} {f0 f1 f2 : Field} (he : P.underlying t = some (.struct #[f0, f1, f2])) (hi : P.underlying i64 = some (.int .i64)) (hC : P.cellsOf t = 3) (hc : P.cellsOf i64 = 1)
    (h0 : (f0.type, f0.offset) = (i64, 0)) (h1 : (f1.type, f1.offset) = (i64, 1)) (h2 : (f2.type, f2.offset) = (i64, 2)) : ∀ n cs y, DataW.trod enc P w base spare held n t cs = some y → ∃ a b c : Int, cs = [.int .i64 a, .int .i64 b, .int .i64 c] := fun _ cs _ h => by
  obtain ⟨hl, hf⟩ := fields_of_trod he h
  simp only [Prod.mk.injEq] at h0 h1 h2
  obtain ⟨a, b, c, rfl⟩ := len3 (hl.trans hC)
  obtain ⟨_, _, g0⟩ := hf 0 f0 rfl
  obtain ⟨_, _, g1⟩ := hf 1 f1 rfl
  obtain ⟨_, _, g2⟩ := hf 2 f2 rfl
  rw [h0.1, h0.2, hc] at g0
  rw [h1.1, h1.2, hc] at g1
  rw [h2.1, h2.2, hc] at g2
  obtain ⟨x, rfl⟩ := intField hi rfl g0
  obtain ⟨y, rfl⟩ := intField hi rfl g1
  obtain ⟨z, rfl⟩ := intField hi rfl g2
  exact ⟨x, y, z, rfl⟩
theorem elemOp {t : TypeId} {f0 f1 f2 : Field} (he : P.underlying t = some (.struct #[f0, f1, f2])) (hi : P.underlying i64 = some (.int .i64)) (hC : P.cellsOf t = 3) (hc : P.cellsOf i64 = 1)
    (h0 : (f0.type, f0.offset) = (i64, 0)) (h1 : (f1.type, f1.offset) = (i64, 1)) (h2 : (f2.type, f2.offset) = (i64, 2)) : ∀ n cs y, DataW.trod enc P w base spare held n t cs = some y → ∃ x, tOp.rel w (Old w) x cs := fun n cs y h => by
  obtain ⟨a, b, c, rfl⟩ := elem3 he hi hC hc h0 h1 h2 n cs y h
  exact ⟨⟨a, b, c⟩, rfl⟩
theorem elemTxn {t tl te tb : TypeId} {f0 f1 f2 g0 g1 g2 : Field} (he : P.underlying t = some (.struct #[f0, f1, f2])) (hl_ : P.underlying tl = some (.slice te)) (hs : P.underlying te = some (.struct #[g0, g1, g2])) (hi : P.underlying i64 = some (.int .i64)) (hb : P.underlying tb = some .bool)
    (hC : P.cellsOf t = 3) (hCl : P.cellsOf tl = 1) (hCe : P.cellsOf te = 3) (hc : P.cellsOf i64 = 1) (hCb : P.cellsOf tb = 1)
    (h0 : (f0.type, f0.offset) = (i64, 0)) (h1 : (f1.type, f1.offset) = (tl, 1)) (h2 : (f2.type, f2.offset) = (tb, 2)) (k0 : (g0.type, g0.offset) = (i64, 0)) (k1 : (g1.type, g1.offset) = (i64, 1)) (k2 : (g2.type, g2.offset) = (i64, 2)) :
    ∀ n cs y, DataW.trod enc P w base spare held n t cs = some y → ∃ x, tTxn.rel w (Old w) x cs := fun _ cs _ h => by
  obtain ⟨hl, hf⟩ := fields_of_trod he h
  simp only [Prod.mk.injEq] at h0 h1 h2
  obtain ⟨a, b, c, rfl⟩ := len3 (hl.trans hC)
  obtain ⟨_, _, g0⟩ := hf 0 f0 rfl
  obtain ⟨_, _, g1⟩ := hf 1 f1 rfl
  obtain ⟨_, _, g2⟩ := hf 2 f2 rfl
  rw [h0.1, h0.2, hc] at g0
  rw [h1.1, h1.2, hCl] at g1
  rw [h2.1, h2.2, hCb] at g2
  obtain ⟨x, rfl⟩ := intField hi rfl g0
  obtain ⟨d, rfl⟩ := boolField hb rfl g2
  obtain ⟨xs, v, hv, hsl⟩ := sl_of_trod tOp hl_ hCe (by decide) (elemOp hs hi hCe hc k0 k1 k2) g1
  obtain rfl : b = v := by simpa using hv
  exact ⟨⟨x, xs, d⟩, b, rfl, hsl⟩
end
theorem lens_IntS {w : World} {S : Nat → Prop} {A : Option Addr} {xs : List (List Int)} (h : Row (tSlice tInt) w S A xs) : ∀ x ∈ xs, x.length ≤ maxLen := fun x hx => by
  obtain ⟨k, hk, rfl⟩ := List.getElem_of_mem hx
  obtain ⟨b, off, _, _, hr⟩ := h (by omega)
  obtain ⟨cs, ⟨v, _, A2, c2, _, h1, h2, _⟩, _⟩ := hr k hk
  omega
theorem lens_Txn {w : World} {S : Nat → Prop} {A : Option Addr} {xs : List Txn} (h : Row tTxn w S A xs) : ∀ x ∈ xs, x.Ops.length ≤ maxLen := fun x hx => by
  obtain ⟨k, hk, rfl⟩ := List.getElem_of_mem hx
  obtain ⟨b, off, _, _, hr⟩ := h (by omega)
  obtain ⟨cs, ⟨v, _, A2, c2, _, h1, h2, _⟩, _⟩ := hr k hk
  omega
end Go.Proofs.YtjiobgfaohldhaaGreat
namespace Go.Proofs.YtjiobgfaohldhaaGreat
open Go.RowKit

theorem at_Int {xs : List Int} {A : Option Addr} {w wr : World} {k : Nat} (hR : Row tInt w (Old w) A xs) (hb : Below w.heap.size w wr) (hk : k < xs.length) :
    ∃ b off, A = some ⟨b, off, none⟩ ∧ Old w b ∧ wr.cell? ⟨b, off + k, none⟩ = some (.int .i64 xs[k]) := by
  obtain ⟨b, off, rfl, hbS, hc⟩ := hR (by omega)
  obtain ⟨cs, hr, hcs⟩ := hc k hk
  obtain rfl := hr
  exact ⟨b, off, rfl, hbS, by simpa [tInt, flat] using (hb.cell (p := ⟨b, off + k * tInt.size + 0, none⟩) hbS).trans (hcs 0 _ rfl)⟩
theorem at_Span {xs : List Span} {A : Option Addr} {w wr : World} {k : Nat} (hR : Row tSpan w (Old w) A xs) (hb : Below w.heap.size w wr) (hk : k < xs.length) :
    ∃ b off, A = some ⟨b, off, none⟩ ∧ Old w b ∧ wr.cell? ⟨b, off + k * 2, none⟩ = some (.int .i64 xs[k].From) ∧ wr.cell? ⟨b, off + k * 2 + 1, none⟩ = some (.int .i64 xs[k].To) := by
  obtain ⟨b, off, rfl, hbS, hc⟩ := hR (by omega)
  obtain ⟨cs, hr, hcs⟩ := hc k hk
  obtain rfl := hr
  exact ⟨b, off, rfl, hbS, by simpa [tSpan, flat] using (hb.cell (p := ⟨b, off + k * tSpan.size + 0, none⟩) hbS).trans (hcs 0 _ rfl), by simpa [tSpan, flat] using (hb.cell (p := ⟨b, off + k * tSpan.size + 1, none⟩) hbS).trans (hcs 1 _ rfl)⟩
theorem at_Op {xs : List Op} {A : Option Addr} {w wr : World} {k : Nat} (hR : Row tOp w (Old w) A xs) (hb : Below w.heap.size w wr) (hk : k < xs.length) :
    ∃ b off, A = some ⟨b, off, none⟩ ∧ Old w b ∧ wr.cell? ⟨b, off + k * 3, none⟩ = some (.int .i64 xs[k].Kind) ∧ wr.cell? ⟨b, off + k * 3 + 1, none⟩ = some (.int .i64 xs[k].Key) ∧ wr.cell? ⟨b, off + k * 3 + 2, none⟩ = some (.int .i64 xs[k].Value) := by
  obtain ⟨b, off, rfl, hbS, hc⟩ := hR (by omega)
  obtain ⟨cs, hr, hcs⟩ := hc k hk
  obtain rfl := hr
  exact ⟨b, off, rfl, hbS, by simpa [tOp, flat] using (hb.cell (p := ⟨b, off + k * tOp.size + 0, none⟩) hbS).trans (hcs 0 _ rfl), by simpa [tOp, flat] using (hb.cell (p := ⟨b, off + k * tOp.size + 1, none⟩) hbS).trans (hcs 1 _ rfl), by simpa [tOp, flat] using (hb.cell (p := ⟨b, off + k * tOp.size + 2, none⟩) hbS).trans (hcs 2 _ rfl)⟩
theorem at_Edge {xs : List Edge} {A : Option Addr} {w wr : World} {k : Nat} (hR : Row tEdge w (Old w) A xs) (hb : Below w.heap.size w wr) (hk : k < xs.length) :
    ∃ b off, A = some ⟨b, off, none⟩ ∧ Old w b ∧ wr.cell? ⟨b, off + k * 3, none⟩ = some (.int .i64 xs[k].From) ∧ wr.cell? ⟨b, off + k * 3 + 1, none⟩ = some (.int .i64 xs[k].To) ∧ wr.cell? ⟨b, off + k * 3 + 2, none⟩ = some (.int .i64 xs[k].Kind) := by
  obtain ⟨b, off, rfl, hbS, hc⟩ := hR (by omega)
  obtain ⟨cs, hr, hcs⟩ := hc k hk
  obtain rfl := hr
  exact ⟨b, off, rfl, hbS, by simpa [tEdge, flat] using (hb.cell (p := ⟨b, off + k * tEdge.size + 0, none⟩) hbS).trans (hcs 0 _ rfl), by simpa [tEdge, flat] using (hb.cell (p := ⟨b, off + k * tEdge.size + 1, none⟩) hbS).trans (hcs 1 _ rfl), by simpa [tEdge, flat] using (hb.cell (p := ⟨b, off + k * tEdge.size + 2, none⟩) hbS).trans (hcs 2 _ rfl)⟩
theorem at_IntS {xs : List (List Int)} {A : Option Addr} {w wr : World} {k : Nat} (hR : Row (tSlice tInt) w (Old w) A xs) (hb : Below w.heap.size w wr) (hk : k < xs.length) :
    ∃ b off A2 c2, A = some ⟨b, off, none⟩ ∧ Old w b ∧ wr.cell? ⟨b, off + k, none⟩ = some (.slice A2 xs[k].length c2) ∧ xs[k].length ≤ c2 ∧ c2 ≤ maxLen ∧ Row tInt wr (Old wr) A2 xs[k] := by
  obtain ⟨b, off, rfl, hbS, hc⟩ := hR (by omega)
  obtain ⟨cs, hr, hcs⟩ := hc k hk
  obtain ⟨v, rfl, A2, c2, rfl, h1, h2, h3⟩ := hr
  exact ⟨b, off, A2, c2, rfl, hbS, by simpa [tSlice] using (hb.cell (p := ⟨b, off + k * (tSlice tInt).size + 0, none⟩) hbS).trans (hcs 0 _ rfl), h1, h2, h3.old hb⟩
theorem at_Txn {xs : List Txn} {A : Option Addr} {w wr : World} {k : Nat} (hR : Row tTxn w (Old w) A xs) (hb : Below w.heap.size w wr) (hk : k < xs.length) :
    ∃ b off A2 c2, A = some ⟨b, off, none⟩ ∧ Old w b ∧ wr.cell? ⟨b, off + k * 3, none⟩ = some (.int .i64 xs[k].Session) ∧ wr.cell? ⟨b, off + k * 3 + 1, none⟩ = some (.slice A2 xs[k].Ops.length c2) ∧ wr.cell? ⟨b, off + k * 3 + 2, none⟩ = some (.bool xs[k].Done) ∧ xs[k].Ops.length ≤ c2 ∧ c2 ≤ maxLen ∧ Row tOp wr (Old wr) A2 xs[k].Ops := by
  obtain ⟨b, off, rfl, hbS, hc⟩ := hR (by omega)
  obtain ⟨cs, hr, hcs⟩ := hc k hk
  obtain ⟨v, rfl, A2, c2, rfl, h1, h2, h3⟩ := hr
  exact ⟨b, off, A2, c2, rfl, hbS, by simpa [tTxn] using (hb.cell (p := ⟨b, off + k * tTxn.size + 0, none⟩) hbS).trans (hcs 0 _ rfl), by simpa [tTxn] using (hb.cell (p := ⟨b, off + k * tTxn.size + 1, none⟩) hbS).trans (hcs 1 _ rfl), by simpa [tTxn] using (hb.cell (p := ⟨b, off + k * tTxn.size + 2, none⟩) hbS).trans (hcs 2 _ rfl), h1, h2, h3.old hb⟩
end Go.Proofs.YtjiobgfaohldhaaGreat
namespace Go.Proofs.YtjiobgfaohldhaaGreat
open Go.RowKit

theorem infoInt_ : (Tryz.prog.info? 3).map (fun i => (i.zero, i.size, i.bytes)) = some (some (.int .i64 0), 1, 8) := by kernel_rfl
set_option maxRecDepth 10000 in
set_option maxHeartbeats 400000 in
theorem toIntS (xs : List Int) (A : Option Addr) (c : Nat) (w : World) (hl : xs.length ≤ 1048576) (hA : Row tInt w (Old w) A xs) :
    Calls Tryz.prog 27 #[.slice A xs.length c] w fun e w' => ∃ v, e = .returned v ∧ Own tInt 3 w' (New w w') xs v ∧ Below w.heap.size w w' := by
  obtain ⟨i0, hi, hz0, hz1, hz2⟩ := info_parts infoInt_
  have hmk := fun W => run_make_rowN (P := Tryz.prog) 23 3 i0 _ Tryz.underlying23 hi hz0 .i64 .i64 xs.length xs.length (Nat.le_refl _) (by rw [hz2]; omega) (by omega) W
  rw [hz1] at hmk
  clear hz0 hz1 hz2 hi
  go_enter Tryz.func27, Tryz.ntmps27
  go_wp2
  clear hmk
  go_loopw [4] (fun i wr => ∃ k m : Nat, k ≤ xs.length ∧ i = .int .i64 k ∧ Below w.heap.size w wr ∧ w.heap.size < wr.heap.size ∧ m ≤ wr.heap.size ∧ Filling tInt 3 wr (In (w.heap.size + 1) m) w.heap.size xs.length k xs) (fun i _ => xs.length - (intOf i).toNat)
  case atStart => exact ⟨0, 0, Nat.zero_le _, rfl, (Below.refl _ _).alloc (Nat.le_refl _) _, by simp, Nat.zero_le _, Filling.made _ _ _ _ _ (In (w.heap.size + 1) 0) (by show _ = xs.length * 1; omega) (fun h => absurd h.2 (by omega))⟩
  case round =>
    obtain ⟨k, m, hk, rfl, hb, hsz, hm, hF⟩ := hrel
    by_cases hlt : k < xs.length
    · obtain ⟨b, off, rfl, hbS, c0_⟩ := at_Int hA hb hlt
      clear hA
      have hF2 := hF; obtain ⟨⟨u0, k0⟩, f0⟩ := hF2.there (i := k) (by show k < xs.length * 1; omega)
      go_wp2
      go_roundw
      case rel => exact ⟨k + 1, m, by omega, by go_num, (hb.setCell (p := ⟨w.heap.size, k, none⟩) (Nat.le_refl _) (.int .i64 xs[k])), by simpa using hsz, by simpa using hm, hF2.put1 rfl hlt hlt _ rfl⟩
      case measure => simp [intOf]; omega
    · obtain rfl : k = xs.length := by omega
      clear hA
      go_wp2
      go_ret
      exact ⟨_, rfl, hF.own rfl (by simp only [maxLen]; omega) ⟨Nat.le_refl _, hsz⟩ (fun b h => ⟨by have := h.1; omega, by have := h.2; omega⟩), hb⟩
theorem toOp (x : Op) (w : World) :
    Calls Tryz.prog 102 #[.agg #[.int .i64 x.Kind, .int .i64 x.Key, .int .i64 x.Value]] w fun e w' => e = .returned (.agg #[.int .i64 x.Kind, .int .i64 x.Key, .int .i64 x.Value]) ∧ Below w.heap.size w w' := by
  go_enter Tryz.func102, Tryz.ntmps102
  go_wp2
  refine bodyPost_ret (v := .agg #[.int .i64 x.Kind, .int .i64 x.Key, .int .i64 x.Value]) (by simp [results, Tryz.results102, go_sem]) rfl ⟨rfl, ?_⟩
  repeat (first | refine Below.setCell ?_ (by simp; try omega) _ | refine Below.alloc ?_ (by simp; try omega) _ | exact Below.refl _ _)
theorem infoOp_ : (Tryz.prog.info? 82).map (fun i => (i.zero, i.size, i.bytes)) = some (some (.agg #[.int .i64 0, .int .i64 0, .int .i64 0]), 3, 24) := by kernel_rfl
set_option maxRecDepth 10000 in
set_option maxHeartbeats 400000 in
theorem toOpS (xs : List Op) (A : Option Addr) (c : Nat) (w : World) (hl : xs.length ≤ 1048576) (hA : Row tOp w (Old w) A xs) :
    Calls Tryz.prog 64 #[.slice A xs.length c] w fun e w' => ∃ v, e = .returned v ∧ Own tOp 82 w' (New w w') xs v ∧ Below w.heap.size w w' := by
  obtain ⟨i0, hi, hz0, hz1, hz2⟩ := info_parts infoOp_
  have hmk := fun W => run_make_rowN (P := Tryz.prog) 55 82 i0 _ Tryz.underlying55 hi hz0 .i64 .i64 xs.length xs.length (Nat.le_refl _) (by rw [hz2]; omega) (by omega) W
  rw [hz1] at hmk
  clear hz0 hz1 hz2 hi
  go_enter Tryz.func64, Tryz.ntmps64
  go_wp2
  clear hmk
  go_loopw [4] (fun i wr => ∃ k m : Nat, k ≤ xs.length ∧ i = .int .i64 k ∧ Below w.heap.size w wr ∧ w.heap.size < wr.heap.size ∧ m ≤ wr.heap.size ∧ Filling tOp 82 wr (In (w.heap.size + 1) m) w.heap.size xs.length k xs) (fun i _ => xs.length - (intOf i).toNat)
  case atStart => exact ⟨0, 0, Nat.zero_le _, rfl, (Below.refl _ _).alloc (Nat.le_refl _) _, by simp, Nat.zero_le _, Filling.made _ _ _ _ _ (In (w.heap.size + 1) 0) (by show _ = xs.length * 3; omega) (fun h => absurd h.2 (by omega))⟩
  case round =>
    obtain ⟨k, m, hk, rfl, hb, hsz, hm, hF⟩ := hrel
    by_cases hlt : k < xs.length
    · obtain ⟨b, off, rfl, hbS, c0_, c1_, c2_⟩ := at_Op hA hb hlt
      clear hA
      go_wp2_with (go_at_call 102; refine (toOp xs[k] _).mono ?_; rintro e w' ⟨rfl, hb'⟩; have hF2 := hF.later (S' := In (w.heap.size + 1) w'.heap.size) hb' (fun b h => ⟨h.1, by have := h.2; have := hb'.size; omega⟩) (fun b h => by have := h.2; unfold Old; omega) (fun h => by have := h.1; omega); clear hF; obtain ⟨⟨u0, k0⟩, f0⟩ := hF2.there (i := k * 3) (by show k * 3 < xs.length * 3; omega); obtain ⟨⟨u1, k1⟩, f1⟩ := hF2.there (i := k * 3 + 1) (by show k * 3 + 1 < xs.length * 3; omega); obtain ⟨⟨u2, k2⟩, f2⟩ := hF2.there (i := k * 3 + 2) (by show k * 3 + 2 < xs.length * 3; omega))
      go_roundw
      case rel => exact ⟨k + 1, w'.heap.size, by omega, by go_num, ((((hb.trans (hb'.mono hb.size)).setCell (p := ⟨w.heap.size, k * 3, none⟩) (Nat.le_refl _) (.int .i64 xs[k].Kind)).setCell (p := ⟨w.heap.size, k * 3 + 1, none⟩) (Nat.le_refl _) (.int .i64 xs[k].Key)).setCell (p := ⟨w.heap.size, k * 3 + 2, none⟩) (Nat.le_refl _) (.int .i64 xs[k].Value)), by simpa using (Nat.lt_of_lt_of_le hsz hb'.size), by simp, hF2.put3 rfl hlt hlt _ _ _ rfl⟩
      case measure => simp [intOf]; omega
    · obtain rfl : k = xs.length := by omega
      clear hA
      go_wp2
      go_ret
      exact ⟨_, rfl, hF.own rfl (by simp only [maxLen]; omega) ⟨Nat.le_refl _, hsz⟩ (fun b h => ⟨by have := h.1; omega, by have := h.2; omega⟩), hb⟩
end Go.Proofs.YtjiobgfaohldhaaGreat
