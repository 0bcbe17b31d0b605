/- What the proofs of this seat share: how Go data lie in memory (rows of cells), as Lean predicates over worlds. What the arguments of a law read as: slices of numbers, of structs, of slices, opened to rows of cells. Over any program. What a row of Go data gives at one place. The conversions of the laws package make new memory that reads as their argument: ints, spans, operations, edges. append onto a slice of the call's own, in the words of Own and Row. Over any program. -/
import Derived.Test.YtjiobgfaohldhaaGreatDoorProg
import Derived.WalkKit
import Derived.ProofKit
import Derived.Below
import Derived.BigQuiet
import Derived.Deep.QuietTactic
import Derived.Deep.LoopGhost
import Derived.WalkSpells
import Derived.Outline
import Derived.Shelf.Abstract
import Derived.OwnWalk
import Derived.StillTailTactics
import Derived.Laws.MakeOwn
import Derived.Laws.OwnMore
import Derived.Laws.Rows
import Derived.Deep.AppendLies
import Derived.Deep.Draws
import Derived.Maps.AppendAt
import Derived.ChangeOld
import Derived.OpenShut
import Derived.Deep.Slices
import Derived.Deep.Fields
import Derived.BigFrame
namespace Go.Proofs.YtjiobgfaohldhaaGreatDoor
open Go.RowKit

theorem ret_bool {a b : Bool} (h : a = b) : Ending.returned (.bool a) = Ending.returned (.bool b) := by rw [h]
theorem ret_int {a b : Int} (h : a = b) : Ending.returned (.int .i64 a) = Ending.returned (.int .i64 b) := by rw [h]
theorem hide {p : Prop} (h : p) : Hid p := h

/-- A type of Go data: how many cells a value takes, and when cells in a world read as a datum; the blocks that are reached are among S. -/
structure Ty (α : Type) where
  size : Nat
  rel : World → (Nat → Prop) → α → List Value → Prop
  len : ∀ {w S x cs}, rel w S x cs → cs.length = size
  one : ∀ {w S x cs}, rel w S x cs → ∀ u ∈ cs, u.oneCell' = true
  mono : ∀ {w w' S S' x cs}, rel w S x cs → (∀ b, S b → S' b) → (∀ b, S b → w'.heap[b]? = w.heap[b]?) → rel w' S' x cs

/-- Blocks that lie in a world. -/
def Old (w : World) (b : Nat) : Prop := b < w.heap.size
/-- Blocks from lo on and below hi. -/
def In (lo hi : Nat) (b : Nat) : Prop := lo ≤ b ∧ b < hi

/-- A row of elements in block b from place off on. -/
def RowAt {α : Type} (T : Ty α) (w : World) (S : Nat → Prop) (b off : Nat) (xs : List α) : Prop :=
  ∀ k (h : k < xs.length), ∃ cs, T.rel w S xs[k] cs ∧ ∀ j u, cs[j]? = some u → w.cell? ⟨b, off + k * T.size + j, none⟩ = some u
/-- A row of elements that a slice leads to. -/
def Row {α : Type} (T : Ty α) (w : World) (S : Nat → Prop) (A : Option Addr) (xs : List α) : Prop :=
  0 < xs.length → ∃ b off, A = some ⟨b, off, none⟩ ∧ S b ∧ RowAt T w S b off xs

theorem RowAt.mono {α : Type} {T : Ty α} {w w' : World} {S S' : Nat → Prop} {b off : Nat} {xs : List α} (h : RowAt T w S b off xs)
    (h2 : ∀ b, S b → S' b) (h3 : ∀ b, S b → w'.heap[b]? = w.heap[b]?) (h4 : w'.heap[b]? = w.heap[b]?) : RowAt T w' S' b off xs := fun k hk => by
  obtain ⟨cs, hr, hcs⟩ := h k hk
  exact ⟨cs, T.mono hr h2 h3, fun j u hu => (World.cell?_of_block h4).trans (hcs j u hu)⟩
theorem Row.mono {α : Type} {T : Ty α} {w w' : World} {S S' : Nat → Prop} {A : Option Addr} {xs : List α} (h : Row T w S A xs)
    (h2 : ∀ b, S b → S' b) (h3 : ∀ b, S b → w'.heap[b]? = w.heap[b]?) : Row T w' S' A xs := fun hp => by
  obtain ⟨b, off, rfl, hb, hc⟩ := h hp
  exact ⟨b, off, rfl, h2 b hb, hc.mono h2 h3 (h3 b hb)⟩
theorem Row.old {α : Type} {T : Ty α} {w w' : World} {A : Option Addr} {xs : List α} (h : Row T w (Old w) A xs) (hb : Below w.heap.size w w') : Row T w' (Old w') A xs :=
  h.mono (fun _ hx => Nat.lt_of_lt_of_le hx hb.size) fun _ hx => hb.block _ hx
theorem Row.nil {α : Type} {T : Ty α} {w : World} {S : Nat → Prop} {A : Option Addr} : Row T w S A [] := fun h => absurd h (by simp)

def flat {α : Type} (size : Nat) (enc : α → List Value) (hl : ∀ x, (enc x).length = size) (h1 : ∀ x, ∀ u ∈ enc x, u.oneCell' = true) : Ty α where
  size := size
  rel _ _ x cs := cs = enc x
  len h := by rw [h]; exact hl _
  one h := by rw [h]; exact h1 _
  mono h _ _ := h

def tInt : Ty Int := flat 1 (fun n => [.int .i64 n]) (fun _ => rfl) (fun _ u hu => by simp at hu; subst hu; rfl)

/-- A slice value reads as a list. -/
def Sl {α : Type} (T : Ty α) (w : World) (S : Nat → Prop) (xs : List α) (v : Value) : Prop :=
  ∃ A c, v = .slice A xs.length c ∧ xs.length ≤ c ∧ c ≤ maxLen ∧ Row T w S A xs
theorem Sl.mono {α : Type} {T : Ty α} {w w' : World} {S S' : Nat → Prop} {v : Value} {xs : List α} (h : Sl T w S xs v)
    (h2 : ∀ b, S b → S' b) (h3 : ∀ b, S b → w'.heap[b]? = w.heap[b]?) : Sl T w' S' xs v := by
  obtain ⟨A, c, rfl, h4, h5, h6⟩ := h; exact ⟨A, c, rfl, h4, h5, h6.mono h2 h3⟩
theorem Sl.old {α : Type} {T : Ty α} {w w' : World} {v : Value} {xs : List α} (h : Sl T w (Old w) xs v) (hb : Below w.heap.size w w') : Sl T w' (Old w') xs v :=
  h.mono (fun _ hx => Nat.lt_of_lt_of_le hx hb.size) fun _ hx => hb.block _ hx
def tSlice {α : Type} (T : Ty α) : Ty (List α) where
  size := 1
  rel w S xs cs := ∃ v, cs = [v] ∧ Sl T w S xs v
  len h := by obtain ⟨v, rfl, _⟩ := h; rfl
  one h u hu := by obtain ⟨v, rfl, A, c, rfl, _⟩ := h; simp at hu; subst hu; rfl
  mono h h2 h3 := by obtain ⟨v, rfl, h4⟩ := h; exact ⟨v, rfl, h4.mono h2 h3⟩

structure Span where
  From : Int
  To : Int
structure Op where
  Kind : Int
  Key : Int
  Value : Int
structure Edge where
  From : Int
  To : Int
  Kind : Int
structure Txn where
  Session : Int
  Ops : List Op
  Done : Bool

def tSpan : Ty Span := flat 2 (fun s => [.int .i64 s.From, .int .i64 s.To]) (fun _ => rfl) (fun _ u hu => by simp at hu; rcases hu with rfl | rfl <;> rfl)
def tOp : Ty Op := flat 3 (fun s => [.int .i64 s.Kind, .int .i64 s.Key, .int .i64 s.Value]) (fun _ => rfl) (fun _ u hu => by simp at hu; rcases hu with rfl | rfl | rfl <;> rfl)
def tEdge : Ty Edge := flat 3 (fun s => [.int .i64 s.From, .int .i64 s.To, .int .i64 s.Kind]) (fun _ => rfl) (fun _ u hu => by simp at hu; rcases hu with rfl | rfl | rfl <;> rfl)
def tTxn : Ty Txn where
  size := 3
  rel w S x cs := ∃ v, cs = [.int .i64 x.Session, v, .bool x.Done] ∧ Sl tOp w S x.Ops v
  len h := by obtain ⟨A, rfl, _⟩ := h; rfl
  one h u hu := by
    obtain ⟨v, rfl, A, c, rfl, _⟩ := h
    simp at hu
    rcases hu with rfl | rfl | rfl <;> rfl
  mono h h2 h3 := by obtain ⟨v, rfl, h4⟩ := h; exact ⟨v, rfl, h4.mono h2 h3⟩

/-! ### Blocks that are known whole; slices of the call's own -/
def Blk (w : World) (g : Nat) (t : TypeId) (cs : Array Value) : Prop := w.heap[g]? = some (.cells cs t (0, 0))
section
variable {w w' : World} {g : Nat} {t : TypeId} {cs : Array Value}
theorem Blk.lt (h : Blk w g t cs) : g < w.heap.size := by
  rcases Nat.lt_or_ge g w.heap.size with hlt | hge
  · exact hlt
  · unfold Blk at h; rw [Array.getElem?_eq_none hge] at h; cases h
theorem Blk.cell (h : Blk w g t cs) (i : Nat) : w.cell? ⟨g, i, none⟩ = cs[i]? := cell_of_row w g i cs t (0, 0) h
theorem Blk.frozen (h : Blk w g t cs) (i : Nat) : w.frozen? ⟨g, i, none⟩ = false := by
  unfold Blk at h
  simp [World.frozen?, h]
theorem Blk.new (w : World) (t : TypeId) (cs : Array Value) : Blk (w.alloc (.cells cs t)) w.heap.size t cs := heap_alloc_new w _
theorem Blk.of (h : Blk w g t cs) (e : w'.heap[g]? = w.heap[g]?) : Blk w' g t cs := e.trans h
theorem Blk.alloc (h : Blk w g t cs) (o : Obj) : Blk (w.alloc o) g t cs := (Below.heap_alloc w o g h.lt).trans h
theorem Blk.set_ (h : Blk w g t cs) (i : Nat) (u : Value) : Blk (w.setCell ⟨g, i, none⟩ u) g t (cs.setIfInBounds i u) := by
  unfold Blk at h ⊢
  simp [World.setCell, Array.getElem?_modify, h]
theorem Blk.far (h : Blk w g t cs) {p : Addr} (hp : g ≠ p.block) (u : Value) : Blk (w.setCell p u) g t cs := (Below.heap_setCell w p u g hp).trans h
theorem Blk.below {B : Nat} (h : Blk w g t cs) (hb : Below B w w') (hg : g < B) : Blk w' g t cs := (hb.block g hg).trans h
theorem Blk.ne_ {g' : Nat} {t' : TypeId} {cs' : Array Value} (h : Blk w g t cs) (h' : Blk w g' t' cs') (hne : t ≠ t') : g ≠ g' := by
  rintro rfl
  unfold Blk at h h'
  rw [h] at h'
  injection h' with h'
  injection h' with _ ht
  exact hne ht
/-- A cell of a block that is known whole: there, and not frozen. -/
theorem Blk.there (h : Blk w g t cs) {i : Nat} (hi : i < cs.size) : (∃ u, w.cell? ⟨g, i, none⟩ = some u) ∧ w.frozen? ⟨g, i, none⟩ = false :=
  ⟨⟨cs[i], by rw [h.cell, Array.getElem?_eq_getElem hi]⟩, h.frozen i⟩
end
/-- Behind a call that only makes memory all old cells and marks read as before. -/
theorem bcell {W w1 : World} (hb : Below W.heap.size W w1) : (∀ b o, b < W.heap.size → w1.cell? ⟨b, o, none⟩ = W.cell? ⟨b, o, none⟩) ∧ (∀ b o, b < W.heap.size → w1.frozen? ⟨b, o, none⟩ = W.frozen? ⟨b, o, none⟩) :=
  ⟨fun b o h => hb.cell (p := ⟨b, o, none⟩) h, fun b o h => hb.frozen (p := ⟨b, o, none⟩) h⟩
theorem below_drewN {B : Nat} {a w : World} (h : Below B a w) (n : Nat) : Below B a (w.drewN n) := ⟨h.os, h.tape, h.output, h.size, h.block⟩

/-- A slice of the call's own: it reads as xs, its block is known whole, and what its elements lead to lies elsewhere. -/
def Own {α : Type} (T : Ty α) (e : TypeId) (w : World) (S : Nat → Prop) (xs : List α) (v : Value) : Prop :=
  (v = .slice none 0 0 ∧ xs = []) ∨
  ∃ g cap cur S', v = .slice (some ⟨g, 0, none⟩) xs.length cap ∧ S g ∧ Blk w g e cur ∧ xs.length ≤ cap ∧ cap ≤ maxLen ∧ cur.size = cap * T.size ∧
    (∀ b, S' b → S b ∧ b ≠ g) ∧ RowAt T w S' g 0 xs
theorem Own.sl {α : Type} {T : Ty α} {e : TypeId} {w : World} {S : Nat → Prop} {xs : List α} {v : Value} (h : Own T e w S xs v) : Sl T w S xs v := by
  rcases h with ⟨rfl, rfl⟩ | ⟨g, cap, cur, S', rfl, hg, hB, h1, h2, h3, h4, h5⟩
  · exact ⟨none, 0, rfl, by simp, by simp [maxLen], Row.nil⟩
  · exact ⟨some ⟨g, 0, none⟩, cap, rfl, h1, h2, fun _ => ⟨g, 0, rfl, hg, h5.mono (fun b hb => (h4 b hb).1) (fun _ _ => rfl) rfl⟩⟩
theorem Own.mono {α : Type} {T : Ty α} {e : TypeId} {w w' : World} {S S2 : Nat → Prop} {xs : List α} {v : Value} (h : Own T e w S xs v) (h1 : ∀ b, S b → S2 b) (h2 : ∀ b, S b → w'.heap[b]? = w.heap[b]?) : Own T e w' S2 xs v := by
  rcases h with h | ⟨g, cap, cur, S', rfl, hg, hB, h3, h4, h5, h6, h7⟩
  · exact .inl h
  · exact .inr ⟨g, cap, cur, S', rfl, h1 g hg, hB.of (h2 g hg), h3, h4, h5, fun b hb => ⟨h1 b (h6 b hb).1, (h6 b hb).2⟩, h7.mono (fun _ h => h) (fun b hb => h2 b (h6 b hb).1) (h2 g hg)⟩
theorem Own.setLow {α : Type} {T : Ty α} {e : TypeId} {w : World} {S : Nat → Prop} {xs : List α} {v : Value} {n : Nat} (h : Own T e w S xs v) (hS : ∀ b, S b → n ≤ b) {p : Addr} (hp : p.block < n) (u : Value) : Own T e (w.setCell p u) S xs v :=
  h.mono (fun _ h => h) fun b hb => Below.heap_setCell _ _ _ _ (by have := hS b hb; omega)
/-- What a call hands back lies in blocks that it made. -/
def New (w w' : World) (b : Nat) : Prop := w.heap.size ≤ b ∧ b < w'.heap.size
theorem New.old {w w' : World} {b : Nat} (h : New w w' b) : Old w' b := h.2
theorem Own.old {α : Type} {T : Ty α} {e : TypeId} {w w' : World} {xs : List α} {v : Value} (h : Own T e w' (New w w') xs v) : Sl T w' (Old w') xs v :=
  h.sl.mono (fun _ hb => hb.2) fun _ _ => rfl

/-- One step of filling a made row whose first k elements are there. -/
theorem RowAt.snoc {α : Type} {T : Ty α} {w w' : World} {S S' : Nat → Prop} {b off k : Nat} {xs : List α} (hk : k < xs.length) (h : RowAt T w S b off (xs.take k))
    (hS : ∀ b, S b → S' b) (hw : ∀ b, S b → w'.heap[b]? = w.heap[b]?)
    (hold : ∀ j, j < k * T.size → w'.cell? ⟨b, off + j, none⟩ = w.cell? ⟨b, off + j, none⟩)
    (hnew : ∃ cs, T.rel w' S' xs[k] cs ∧ ∀ j u, cs[j]? = some u → w'.cell? ⟨b, off + k * T.size + j, none⟩ = some u) : RowAt T w' S' b off (xs.take (k + 1)) := fun i hi => by
  rw [List.length_take] at hi
  rcases Nat.lt_or_ge i k with hlt | hge
  · obtain ⟨cs, hr, hcs⟩ := h i (by rw [List.length_take]; omega)
    refine ⟨cs, ?_, fun j u hu => ?_⟩
    · have e : (xs.take (k + 1))[i]'(by rw [List.length_take]; omega) = (xs.take k)[i]'(by rw [List.length_take]; omega) := by simp
      rw [e]
      exact T.mono hr hS hw
    · have hj : j < T.size := by rw [← T.len hr]; exact (List.getElem?_eq_some_iff.1 hu).1
      have h1 : i * T.size + j < k * T.size := by
        have : (i + 1) * T.size ≤ k * T.size := Nat.mul_le_mul_right _ hlt
        rw [Nat.add_mul] at this
        omega
      rw [Nat.add_assoc, hold _ h1, ← Nat.add_assoc]
      exact hcs j u hu
  · obtain rfl : i = k := by omega
    simpa using hnew
theorem RowAt.zero {α : Type} {T : Ty α} {w : World} {S : Nat → Prop} {b off : Nat} : RowAt T w S b off ([] : List α) := fun _ h => absurd h (by simp)
theorem RowAt.take0 {α : Type} {T : Ty α} {w : World} {S : Nat → Prop} {b off : Nat} {xs : List α} : RowAt T w S b off (xs.take 0) := fun _ h => absurd h (by simp)

/-- What is known of a row that is being filled: block g whole, room for n elements, the first k of xs there. -/
structure Filling {α : Type} (T : Ty α) (e : TypeId) (w : World) (S : Nat → Prop) (g n k : Nat) (xs : List α) : Prop where
  ex : ∃ cur, Blk w g e cur ∧ cur.size = n * T.size
  row : RowAt T w S g 0 (xs.take k)
  ne : ¬ S g
theorem Filling.later {α : Type} {T : Ty α} {e : TypeId} {w w' : World} {S S' : Nat → Prop} {g n k : Nat} {xs : List α} (h : Filling T e w S g n k xs)
    (hb : Below w.heap.size w w') (hS : ∀ b, S b → S' b) (hO : ∀ b, S b → Old w b) (hg : ¬ S' g) : Filling T e w' S' g n k xs := by
  obtain ⟨⟨cur, hB, hc⟩, hr, _⟩ := h
  exact ⟨⟨cur, hB.below hb hB.lt, hc⟩, hr.mono hS (fun b h => hb.block b (hO b h)) (hb.block g hB.lt), hg⟩
theorem Filling.there {α : Type} {T : Ty α} {e : TypeId} {w : World} {S : Nat → Prop} {g n k : Nat} {xs : List α} (h : Filling T e w S g n k xs) {i : Nat} (hi : i < n * T.size) :
    (∃ u, w.cell? ⟨g, i, none⟩ = some u) ∧ w.frozen? ⟨g, i, none⟩ = false := by
  obtain ⟨⟨cur, hB, hc⟩, _, _⟩ := h
  exact hB.there (by omega)
theorem far_ {w : World} {S : Nat → Prop} {g i x : Nat} {a : Value} (h : ¬ S g) (hx : S x) : (w.setCell ⟨g, i, none⟩ a).heap[x]? = w.heap[x]? :=
  Below.heap_setCell _ _ _ _ (by rintro rfl; exact h hx)
/-- A row that has been filled is a slice of the call's own. -/
theorem Filling.own {α : Type} {T : Ty α} {e : TypeId} {w : World} {S S' : Nat → Prop} {g n : Nat} {xs : List α} (h : Filling T e w S g n xs.length xs) (hn : n = xs.length) (hm : n ≤ maxLen) (hg : S' g) (hS : ∀ b, S b → S' b) :
    Own T e w S' xs (.slice (some ⟨g, 0, none⟩) n n) := by
  subst hn
  obtain ⟨⟨cur, hB, hc⟩, hrow, hne⟩ := h
  exact .inr ⟨g, _, cur, S, rfl, hg, hB, Nat.le_refl _, hm, hc, fun b hb => ⟨hS b hb, fun e => hne (e ▸ hb)⟩, by simpa using hrow⟩

theorem run_make_rowN {P : Program} (t e : TypeId) (i : TypeInfo) (z : Value) (ht : P.underlying t = some (.slice e)) (hi : P.info? e = some i) (hz : i.zero = some z)
    (kl kc : IntKind) (n c : Nat) (hnc : n ≤ c) (hbytes : i.bytes * c ≤ 281474976710656) (h63 : c ≤ 9223372036854775807) (w : World) :
    (Instr.makeSlice t (.int kl (n : Int)) (.int kc (c : Int))).run P w = .ok (.slice (some ⟨w.heap.size, 0, none⟩) n c) (w.alloc (.cells (madeCells z.cells (c * i.size)) e)) := by
  have hb : (i.bytes : Int) * (c : Int) ≤ 281474976710656 := by
    have h : ((i.bytes * c : Nat) : Int) ≤ 281474976710656 := by omega
    rwa [Int.natCast_mul] at h
  have hr := run_make (P := P) w t e i z ht hi hz kl kc n c (by omega) (by omega) hb (by omega)
  simp only [Int.toNat_natCast] at hr
  exact hr
/-- A row that 'make' has just laid. -/
theorem Filling.made {α : Type} {T : Ty α} {e : TypeId} (w : World) (z : Array Value) (m n : Nat) (xs : List α) (S : Nat → Prop) (hm : m = n * T.size) (hS : ¬ S w.heap.size) :
    Filling T e (w.alloc (.cells (madeCells z m) e)) S w.heap.size n 0 xs :=
  ⟨⟨_, Blk.new _ _ _, by unfold madeCells; simp [hm]⟩, RowAt.take0, hS⟩

theorem RowAt.imp {α : Type} {T T' : Ty α} {w : World} {S : Nat → Prop} {b off : Nat} {xs : List α} (h : RowAt T w S b off xs) (hs : T.size = T'.size)
    (hi : ∀ x cs, T.rel w S x cs → T'.rel w S x cs) : RowAt T' w S b off xs := fun k hk => by
  obtain ⟨cs, hr, hc⟩ := h k hk
  exact ⟨cs, hi _ _ hr, by rw [← hs]; exact hc⟩
theorem Own.weak {α : Type} {T T' : Ty α} {e : TypeId} {w : World} {S : Nat → Prop} {xs : List α} {v : Value} (h : Own T e w S xs v) (hs : T.size = T'.size)
    (hi : ∀ S x cs, T.rel w S x cs → T'.rel w S x cs) : Own T' e w S xs v := by
  rcases h with h | ⟨g, cap, cur, S', rfl, hg, hB, h1, h2, h3, h4, h5⟩
  · exact .inl h
  · exact .inr ⟨g, cap, cur, S', rfl, hg, hB, h1, h2, by rw [← hs]; exact h3, h4, h5.imp hs (hi S')⟩
def tIntSO (e : TypeId) : Ty (List Int) where
  size := 1
  rel w S xs cs := ∃ v, cs = [v] ∧ Own tInt e w S xs v
  len h := by obtain ⟨v, rfl, _⟩ := h; rfl
  one h u hu := by obtain ⟨v, rfl, h2⟩ := h; obtain ⟨A, c, rfl, _⟩ := h2.sl; simp at hu; subst hu; rfl
  mono h h2 h3 := by obtain ⟨v, rfl, h4⟩ := h; exact ⟨v, rfl, h4.mono h2 h3⟩
def tTxnO (e : TypeId) : Ty Txn where
  size := 3
  rel w S x cs := ∃ v, cs = [.int .i64 x.Session, v, .bool x.Done] ∧ Own tOp e w S x.Ops v
  len h := by obtain ⟨A, rfl, _⟩ := h; rfl
  one h u hu := by
    obtain ⟨v, rfl, h2⟩ := h
    obtain ⟨A, c, rfl, _⟩ := h2.sl
    simp at hu
    rcases hu with rfl | rfl | rfl <;> rfl
  mono h h2 h3 := by obtain ⟨v, rfl, h4⟩ := h; exact ⟨v, rfl, h4.mono h2 h3⟩
theorem Own.weakIntS {e e' : TypeId} {w : World} {S : Nat → Prop} {xs : List (List Int)} {v : Value} (h : Own (tIntSO e) e' w S xs v) : Own (tSlice tInt) e' w S xs v :=
  h.weak rfl fun _ _ _ ⟨v, h1, h2⟩ => ⟨v, h1, h2.sl⟩
theorem Own.weakTxn {e e' : TypeId} {w : World} {S : Nat → Prop} {xs : List Txn} {v : Value} (h : Own (tTxnO e) e' w S xs v) : Own tTxn e' w S xs v :=
  h.weak rfl fun _ _ _ ⟨v, h1, h2⟩ => ⟨v, h1, h2.sl⟩

/-! ### Sizes -/
def tot {α : Type} (f : α → Nat) (xs : List α) : Nat := (xs.map f).sum
theorem tot_take {α : Type} (f : α → Nat) (xs : List α) (k : Nat) (h : k < xs.length) : tot f (xs.take (k + 1)) = tot f (xs.take k) + f xs[k] := by
  unfold tot
  rw [List.take_succ_eq_append_getElem h, List.map_append, List.sum_append]
  simp
theorem tot_le {α : Type} (f : α → Nat) (xs : List α) : ∀ x ∈ xs, f x ≤ tot f xs := by
  unfold tot
  induction xs with
  | nil => simp
  | cons y ys ih =>
    intro x hx
    simp only [List.map_cons, List.sum_cons]
    rcases List.mem_cons.1 hx with rfl | h
    · omega
    · have := ih x h; omega
theorem tot_mono {α : Type} (f : α → Nat) (xs : List α) (k : Nat) : tot f (xs.take k) ≤ tot f xs := by
  have h : tot f (xs.take k) + tot f (xs.drop k) = tot f xs := by
    unfold tot
    rw [← List.sum_append, ← List.map_append, List.take_append_drop]
  omega

/-- The first k elements all pass. -/
def Upto {α : Type} (p : α → Bool) (xs : List α) (k : Nat) : Prop := ∀ j (hj : j < xs.length), j < k → p xs[j] = true
theorem Upto.zero {α : Type} {p : α → Bool} {xs : List α} : Upto p xs 0 := fun _ _ h => absurd h (by omega)
theorem Upto.succ {α : Type} {p : α → Bool} {xs : List α} {k : Nat} (h : Upto p xs k) (hk : k < xs.length) (hp : p xs[k] = true) : Upto p xs (k + 1) := fun j hj h1 => by
  rcases Nat.lt_succ_iff_lt_or_eq.1 h1 with h2 | rfl
  · exact h j hj h2
  · exact hp
theorem Upto.all {α : Type} {p : α → Bool} {xs : List α} (h : Upto p xs xs.length) : xs.all p = true := by
  rw [List.all_eq_true]
  intro x hx
  obtain ⟨j, hj, rfl⟩ := List.getElem_of_mem hx
  exact h j hj hj
theorem all_false {α : Type} {p : α → Bool} {xs : List α} {k : Nat} (hk : k < xs.length) (hp : p xs[k] = false) : xs.all p = false := by
  rw [List.all_eq_false]
  exact ⟨_, List.getElem_mem hk, by simp [hp]⟩
/-- A number lies in a range. -/
def inR (n lo hi : Int) : Bool := decide (lo ≤ n) && decide (n ≤ hi)
theorem inR_iff {n lo hi : Int} : inR n lo hi = true ↔ lo ≤ n ∧ n ≤ hi := by simp [inR]

/-- What is asked of a function value that is a predicate and may lay blocks of its own. -/
def Pred (P : Program) (g : Nat) (lb : Array Value) (w : World) (v : Value) (q : Bool) : Prop :=
  ∀ W : World, Below w.heap.size w W → Calls P g (#[v] ++ lb) W fun e w' => e = .returned (.bool q) ∧ Below w.heap.size w w'
def one_ : List Value → Value
  | [v] => v
  | l => .agg l.toArray

/-- The first place of a list whose element a predicate takes, or -1. -/
def idx {α : Type} (p : α → Bool) : List α → Int
  | [] => -1
  | x :: xs => if p x then 0 else (match idx p xs with | .ofNat n => .ofNat (n + 1) | .negSucc n => .negSucc n)
theorem idx_neg {α : Type} (p : α → Bool) (xs : List α) : (0 ≤ idx p xs) ↔ xs.any p = true := by
  induction xs with
  | nil => simp [idx]
  | cons x xs ih =>
    by_cases h : p x = true
    · simp [idx, h]
    · simp only [idx, h, List.any_cons, Bool.false_or, ← ih]
      cases idx p xs with
      | ofNat n => simp; omega
      | negSucc n => simp
theorem idx_hit {α : Type} (p : α → Bool) : ∀ (xs : List α) (k : Nat) (h : k < xs.length), p xs[k] = true → (∀ j (hj : j < xs.length), j < k → p xs[j] = false) → idx p xs = k
  | [], k, h, _, _ => absurd h (by simp)
  | x :: xs, 0, h, hp, _ => by simp at hp; simp [idx, hp]
  | x :: xs, k + 1, h, hp, hb => by
    have h0 : p x = false := hb 0 (by simp) (by omega)
    have h1 := idx_hit p xs k (by simpa using h) (by simpa using hp) (fun j hj hk => by have := hb (j + 1) (by simpa using hj) (by omega); simpa using this)
    simp only [idx, h0, h1]
    rfl
theorem idx_miss {α : Type} (p : α → Bool) (xs : List α) (h : ∀ j (hj : j < xs.length), p xs[j] = false) : idx p xs = -1 := by
  induction xs with
  | nil => rfl
  | cons x xs ih =>
    have h0 : p x = false := h 0 (by simp)
    have h1 := ih (fun j hj => by have := h (j + 1) (by simpa using hj); simpa using this)
    simp only [idx, h0, h1]
    rfl
end Go.Proofs.YtjiobgfaohldhaaGreatDoor
namespace Go.Proofs.YtjiobgfaohldhaaGreatDoor
open Go.RowKit Go.ChangeShapes Go.WideShapes Go.Deep

theorem list_of_each {α : Type} (Q : Nat → α → Prop) : ∀ n : Nat, (∀ i, i < n → ∃ x, Q i x) → ∃ xs : List α, xs.length = n ∧ ∀ i (h : i < xs.length), Q i xs[i]
  | 0, _ => ⟨[], rfl, fun _ h => absurd h (by simp)⟩
  | n + 1, h => by
    obtain ⟨xs, hl, hx⟩ := list_of_each Q n (fun i hi => h i (by omega))
    obtain ⟨x, hq⟩ := h n (by omega)
    refine ⟨xs ++ [x], by simp [hl], fun i hi => ?_⟩
    rw [List.length_append] at hi
    simp only [List.length_cons, List.length_nil] at hi
    rcases Nat.lt_or_ge i xs.length with h1 | h1
    · rw [List.getElem_append_left h1]; exact hx i h1
    · obtain rfl : i = n := by omega
      simp [List.getElem_append_right, hl, hq]

section
variable {H : Type} {enc : TypeId × Value → H} {P : Program} {w : World} {base : Nat} {spare : Nat → Bool} {held : Bool}

theorem sl_of_trod {α : Type} (T : Ty α) {t e : TypeId} {fuel : Nat} {cs : List Value} {y : DataW H × List MemPlace} (ht : P.underlying t = some (.slice e)) (hC : P.cellsOf e = T.size) (hT : 0 < T.size)
    (he : ∀ n cs y, DataW.trod enc P w base spare held n e cs = some y → ∃ x, T.rel w (Old w) x cs) (h : DataW.trod enc P w base spare held fuel t cs = some y) : ∃ xs v, cs = [v] ∧ Sl T w (Old w) xs v := by
  rcases open_slice ht h with ⟨rfl, _⟩ | ⟨a, len, cap, m, n, D, Pl, rfl, _, hl, hm, hmm, _, hi⟩
  · exact ⟨[], _, rfl, none, 0, rfl, by simp, by simp [maxLen], Row.nil⟩
  · have hlm : len ≤ m := by rw [hmm]; split <;> omega
    obtain ⟨xs, hxl, hx⟩ := list_of_each (fun i x => ∃ cs', T.rel w (Old w) x cs' ∧ ∀ j, j < T.size → w.cell? ((a.add (i * T.size)).add j) = cs'[j]?) len (fun i hil => by
      obtain ⟨cs', hc, ht'⟩ := hi i (by omega)
      obtain ⟨_, _, hat⟩ := World.cells?_some hc
      obtain ⟨x, hr⟩ := he _ _ _ ht'
      rw [hC] at hat
      exact ⟨x, cs', hr, hat⟩)
    subst hxl
    refine ⟨xs, _, rfl, some a, cap, rfl, hl, hm, fun hp => ?_⟩
    obtain ⟨cs0, hr0, h0⟩ := hx 0 hp
    have hlen0 := T.len hr0
    have hcell0 := h0 0 hT
    rw [List.getElem?_eq_getElem (by omega)] at hcell0
    simp only [Nat.zero_mul] at hcell0
    have ha0 : (a.add 0).add 0 = a := by simp [Addr.add]
    rw [ha0] at hcell0
    obtain ⟨b, off, spot⟩ := a
    have hspot : spot = none := by simpa using World.cell?_spot hcell0
    subst hspot
    refine ⟨b, off, rfl, World.block_lt_of_cell? w _ hcell0, fun k hk => ?_⟩
    obtain ⟨cs', hr, hat⟩ := hx k hk
    refine ⟨cs', hr, fun j u hu => ?_⟩
    have hj : j < T.size := by rw [← T.len hr]; exact (List.getElem?_eq_some_iff.1 hu).1
    have h1 := hat j hj
    rw [Go.WideShapes.add_plain, Go.WideShapes.add_plain] at h1
    rw [h1, hu]

variable {i64 : TypeId}
end
end Go.Proofs.YtjiobgfaohldhaaGreatDoor
namespace Go.Proofs.YtjiobgfaohldhaaGreatDoor
open Go.RowKit

theorem at_Int {xs : List Int} {A : Option Addr} {w wr : World} {k : Nat} (hR : Row tInt w (Old w) A xs) (hb : Below w.heap.size w wr) (hk : k < xs.length) :
    ∃ b off, A = some ⟨b, off, none⟩ ∧ Old w b ∧ wr.cell? ⟨b, off + k, none⟩ = some (.int .i64 xs[k]) := by
  obtain ⟨b, off, rfl, hbS, hc⟩ := hR (by omega)
  obtain ⟨cs, hr, hcs⟩ := hc k hk
  obtain rfl := hr
  exact ⟨b, off, rfl, hbS, by simpa [tInt, flat] using (hb.cell (p := ⟨b, off + k * tInt.size + 0, none⟩) hbS).trans (hcs 0 _ rfl)⟩
theorem at_Span {xs : List Span} {A : Option Addr} {w wr : World} {k : Nat} (hR : Row tSpan w (Old w) A xs) (hb : Below w.heap.size w wr) (hk : k < xs.length) :
    ∃ b off, A = some ⟨b, off, none⟩ ∧ Old w b ∧ wr.cell? ⟨b, off + k * 2, none⟩ = some (.int .i64 xs[k].From) ∧ wr.cell? ⟨b, off + k * 2 + 1, none⟩ = some (.int .i64 xs[k].To) := by
  obtain ⟨b, off, rfl, hbS, hc⟩ := hR (by omega)
  obtain ⟨cs, hr, hcs⟩ := hc k hk
  obtain rfl := hr
  exact ⟨b, off, rfl, hbS, by simpa [tSpan, flat] using (hb.cell (p := ⟨b, off + k * tSpan.size + 0, none⟩) hbS).trans (hcs 0 _ rfl), by simpa [tSpan, flat] using (hb.cell (p := ⟨b, off + k * tSpan.size + 1, none⟩) hbS).trans (hcs 1 _ rfl)⟩
theorem at_Op {xs : List Op} {A : Option Addr} {w wr : World} {k : Nat} (hR : Row tOp w (Old w) A xs) (hb : Below w.heap.size w wr) (hk : k < xs.length) :
    ∃ b off, A = some ⟨b, off, none⟩ ∧ Old w b ∧ wr.cell? ⟨b, off + k * 3, none⟩ = some (.int .i64 xs[k].Kind) ∧ wr.cell? ⟨b, off + k * 3 + 1, none⟩ = some (.int .i64 xs[k].Key) ∧ wr.cell? ⟨b, off + k * 3 + 2, none⟩ = some (.int .i64 xs[k].Value) := by
  obtain ⟨b, off, rfl, hbS, hc⟩ := hR (by omega)
  obtain ⟨cs, hr, hcs⟩ := hc k hk
  obtain rfl := hr
  exact ⟨b, off, rfl, hbS, by simpa [tOp, flat] using (hb.cell (p := ⟨b, off + k * tOp.size + 0, none⟩) hbS).trans (hcs 0 _ rfl), by simpa [tOp, flat] using (hb.cell (p := ⟨b, off + k * tOp.size + 1, none⟩) hbS).trans (hcs 1 _ rfl), by simpa [tOp, flat] using (hb.cell (p := ⟨b, off + k * tOp.size + 2, none⟩) hbS).trans (hcs 2 _ rfl)⟩
theorem at_Edge {xs : List Edge} {A : Option Addr} {w wr : World} {k : Nat} (hR : Row tEdge w (Old w) A xs) (hb : Below w.heap.size w wr) (hk : k < xs.length) :
    ∃ b off, A = some ⟨b, off, none⟩ ∧ Old w b ∧ wr.cell? ⟨b, off + k * 3, none⟩ = some (.int .i64 xs[k].From) ∧ wr.cell? ⟨b, off + k * 3 + 1, none⟩ = some (.int .i64 xs[k].To) ∧ wr.cell? ⟨b, off + k * 3 + 2, none⟩ = some (.int .i64 xs[k].Kind) := by
  obtain ⟨b, off, rfl, hbS, hc⟩ := hR (by omega)
  obtain ⟨cs, hr, hcs⟩ := hc k hk
  obtain rfl := hr
  exact ⟨b, off, rfl, hbS, by simpa [tEdge, flat] using (hb.cell (p := ⟨b, off + k * tEdge.size + 0, none⟩) hbS).trans (hcs 0 _ rfl), by simpa [tEdge, flat] using (hb.cell (p := ⟨b, off + k * tEdge.size + 1, none⟩) hbS).trans (hcs 1 _ rfl), by simpa [tEdge, flat] using (hb.cell (p := ⟨b, off + k * tEdge.size + 2, none⟩) hbS).trans (hcs 2 _ rfl)⟩
theorem at_IntS {xs : List (List Int)} {A : Option Addr} {w wr : World} {k : Nat} (hR : Row (tSlice tInt) w (Old w) A xs) (hb : Below w.heap.size w wr) (hk : k < xs.length) :
    ∃ b off A2 c2, A = some ⟨b, off, none⟩ ∧ Old w b ∧ wr.cell? ⟨b, off + k, none⟩ = some (.slice A2 xs[k].length c2) ∧ xs[k].length ≤ c2 ∧ c2 ≤ maxLen ∧ Row tInt wr (Old wr) A2 xs[k] := by
  obtain ⟨b, off, rfl, hbS, hc⟩ := hR (by omega)
  obtain ⟨cs, hr, hcs⟩ := hc k hk
  obtain ⟨v, rfl, A2, c2, rfl, h1, h2, h3⟩ := hr
  exact ⟨b, off, A2, c2, rfl, hbS, by simpa [tSlice] using (hb.cell (p := ⟨b, off + k * (tSlice tInt).size + 0, none⟩) hbS).trans (hcs 0 _ rfl), h1, h2, h3.old hb⟩
theorem at_Txn {xs : List Txn} {A : Option Addr} {w wr : World} {k : Nat} (hR : Row tTxn w (Old w) A xs) (hb : Below w.heap.size w wr) (hk : k < xs.length) :
    ∃ b off A2 c2, A = some ⟨b, off, none⟩ ∧ Old w b ∧ wr.cell? ⟨b, off + k * 3, none⟩ = some (.int .i64 xs[k].Session) ∧ wr.cell? ⟨b, off + k * 3 + 1, none⟩ = some (.slice A2 xs[k].Ops.length c2) ∧ wr.cell? ⟨b, off + k * 3 + 2, none⟩ = some (.bool xs[k].Done) ∧ xs[k].Ops.length ≤ c2 ∧ c2 ≤ maxLen ∧ Row tOp wr (Old wr) A2 xs[k].Ops := by
  obtain ⟨b, off, rfl, hbS, hc⟩ := hR (by omega)
  obtain ⟨cs, hr, hcs⟩ := hc k hk
  obtain ⟨v, rfl, A2, c2, rfl, h1, h2, h3⟩ := hr
  exact ⟨b, off, A2, c2, rfl, hbS, by simpa [tTxn] using (hb.cell (p := ⟨b, off + k * tTxn.size + 0, none⟩) hbS).trans (hcs 0 _ rfl), by simpa [tTxn] using (hb.cell (p := ⟨b, off + k * tTxn.size + 1, none⟩) hbS).trans (hcs 1 _ rfl), by simpa [tTxn] using (hb.cell (p := ⟨b, off + k * tTxn.size + 2, none⟩) hbS).trans (hcs 2 _ rfl), h1, h2, h3.old hb⟩
end Go.Proofs.YtjiobgfaohldhaaGreatDoor
namespace Go.Proofs.YtjiobgfaohldhaaGreatDoor
open Go.RowKit

theorem infoInt_ : (Tryz.prog.info? 3).map (fun i => (i.zero, i.size, i.bytes)) = some (some (.int .i64 0), 1, 8) := by kernel_rfl
theorem infoOp_ : (Tryz.prog.info? 50).map (fun i => (i.zero, i.size, i.bytes)) = some (some (.agg #[.int .i64 0, .int .i64 0, .int .i64 0]), 3, 24) := by kernel_rfl
end Go.Proofs.YtjiobgfaohldhaaGreatDoor
namespace Go.Proofs.YtjiobgfaohldhaaGreatDoor
open Go.RowKit

/-- The cells of a row that is read whole. -/
theorem cells_of_row {α : Type} {T : Ty α} {w : World} {S : Nat → Prop} {b off : Nat} : ∀ {xs : List α}, RowAt T w S b off xs →
    ∃ cells : List Value, cells.length = xs.length * T.size ∧ (∀ j u, cells[j]? = some u → w.cell? ⟨b, off + j, none⟩ = some u) ∧ (∀ u ∈ cells, u.oneCell' = true) ∧
      ∀ k (h : k < xs.length), T.rel w S xs[k] ((cells.drop (k * T.size)).take T.size) := by
  intro xs
  induction xs generalizing off with
  | nil => intro _; exact ⟨[], by simp, fun j u h => by simp at h, fun u h => by simp at h, fun k h => absurd h (by simp)⟩
  | cons x xs ih =>
    intro h
    obtain ⟨cs, hr, hcs⟩ := h 0 (by simp)
    obtain ⟨cells, hl, hc, h1, hrel⟩ := ih (off := off + T.size) (fun k hk => by
      obtain ⟨cs', hr', hcs'⟩ := h (k + 1) (by simpa using hk)
      refine ⟨cs', by simpa using hr', fun j u hu => ?_⟩
      have := hcs' j u hu
      rwa [Nat.add_mul, Nat.one_mul, show off + (k * T.size + T.size) + j = off + T.size + k * T.size + j by omega] at this)
    have hlen := T.len hr
    refine ⟨cs ++ cells, ?_, fun j u hu => ?_, fun u hu => ?_, fun k hk => ?_⟩
    · rw [List.length_append, hlen, hl, List.length_cons, Nat.add_mul]; omega
    · rcases Nat.lt_or_ge j cs.length with hj | hj
      · rw [List.getElem?_append_left hj] at hu
        have := hcs j u hu
        simpa using this
      · rw [List.getElem?_append_right hj, hlen] at hu
        have := hc (j - T.size) u hu
        rwa [show off + T.size + (j - T.size) = off + j by omega] at this
    · rcases List.mem_append.1 hu with h' | h'
      · exact T.one hr u h'
      · exact h1 u h'
    · cases k with
      | zero =>
        have e : (cs ++ cells).take T.size = cs := by rw [← hlen]; exact List.take_left
        simpa [e] using hr
      | succ k =>
        have e : (cs ++ cells).drop ((k + 1) * T.size) = cells.drop (k * T.size) := by
          rw [Nat.add_mul, Nat.one_mul, Nat.add_comm, ← List.drop_drop, ← hlen, List.drop_left]
        rw [e]
        simpa using hrel k (by simpa using hk)

theorem own_of_cells {α : Type} {T : Ty α} {e : TypeId} {w : World} {S S' : Nat → Prop} {xs : List α} {v : Value} {cells : List Value} (hown : w.ownsRow 0 e T.size v xs.length cells)
    (hrel : ∀ k (h : k < xs.length), T.rel w S' xs[k] ((cells.drop (k * T.size)).take T.size)) (hS : ∀ g, v.ownBlock = some g → S g) (hS' : ∀ b, S' b → S b ∧ v.ownBlock ≠ some b) : Own T e w S xs v := by
  obtain ⟨hl, h⟩ := hown
  rcases h with ⟨rfl, hn⟩ | ⟨g, cap, cur, rfl, _, hB, hnc, hcm, hcs, htake⟩
  · exact .inl ⟨rfl, List.eq_nil_of_length_eq_zero hn⟩
  · refine .inr ⟨g, cap, cur, S', rfl, hS g rfl, hB, hnc, hcm, hcs, fun b hb => ⟨(hS' b hb).1, fun e => (hS' b hb).2 (by simp [Value.ownBlock, e])⟩, fun k hk => ⟨_, hrel k hk, fun j u hu => ?_⟩⟩
    have hj : j < T.size := by
      rw [← T.len (hrel k hk)]
      exact (List.getElem?_eq_some_iff.1 hu).1
    have hB' : Blk w g e cur := hB
    rw [hB'.cell]
    rw [List.getElem?_take, if_pos hj, List.getElem?_drop, ← htake, List.getElem?_take] at hu
    split at hu
    · rw [Nat.zero_add]
      simpa using hu
    · cases hu

theorem cells_of_own {α : Type} {T : Ty α} {e : TypeId} {w : World} {S : Nat → Prop} {xs : List α} {v : Value} (h : Own T e w S xs v) :
    ∃ cells S', w.ownsRow 0 e T.size v xs.length cells ∧ (∀ k (h : k < xs.length), T.rel w S' xs[k] ((cells.drop (k * T.size)).take T.size)) ∧ (∀ g, v.ownBlock = some g → S g ∧ Old w g) ∧ (∀ b, S' b → S b ∧ v.ownBlock ≠ some b) := by
  rcases h with ⟨rfl, rfl⟩ | ⟨g, cap, cur, S', rfl, hg, hB, h1, h2, h3, h4, h5⟩
  · exact ⟨[], fun _ => False, World.ownsRow_nil _ _ _ _, fun k h => absurd h (by simp), fun g h => by simp [Value.ownBlock] at h, fun b h => h.elim⟩
  · obtain ⟨cells, hl, hc, _, hrel⟩ := cells_of_row h5
    refine ⟨cells, S', ⟨hl, .inr ⟨g, cap, cur, rfl, Nat.zero_le _, hB, h1, h2, h3, ?_⟩⟩, hrel, fun g' hg' => by simp [Value.ownBlock] at hg'; subst hg'; exact ⟨hg, hB.lt⟩, fun b hb => ⟨(h4 b hb).1, fun e => (h4 b hb).2 (by simpa [Value.ownBlock] using e.symm)⟩⟩
    have hle : xs.length * T.size ≤ cap * T.size := Nat.mul_le_mul_right _ h1
    apply List.ext_getElem?
    intro j
    rw [List.getElem?_take]
    split
    · rename_i hj
      rw [List.getElem?_eq_getElem (by omega : j < cells.length)]
      have := hc j _ (List.getElem?_eq_getElem (by omega))
      rw [hB.cell, Nat.zero_add] at this
      simpa using this
    · rename_i hj
      rw [List.getElem?_eq_none (by omega)]

/-- A row that is read now, wherever it lies; what its elements lead to is in S. -/
def RowAny {α : Type} (T : Ty α) (w : World) (S : Nat → Prop) (A : Option Addr) (xs : List α) : Prop := 0 < xs.length → ∃ b off, A = some ⟨b, off, none⟩ ∧ RowAt T w S b off xs
theorem Row.any {α : Type} {T : Ty α} {w : World} {S : Nat → Prop} {A : Option Addr} {xs : List α} (h : Row T w S A xs) : RowAny T w S A xs := fun hp => by
  obtain ⟨b, off, hA, _, hr⟩ := h hp
  exact ⟨b, off, hA, hr⟩
theorem Row.anyInt {w : World} {S : Nat → Prop} {A : Option Addr} {xs : List Int} (h : Row tInt w S A xs) : RowAny tInt w (fun _ => False) A xs := fun hp => by
  obtain ⟨b, off, hA, _, hr⟩ := h hp
  exact ⟨b, off, hA, fun k hk => hr k hk⟩
section
variable {P : Program}
/-- append(s, x...): s of the call's own, x any row. -/
theorem run_app {α : Type} (T : Ty α) (w : World) (t ty e : TypeId) (i : TypeInfo) (z : Value) (bytes : Nat) (ht : P.underlying t = some (.slice e)) (hi : P.info? e = some i) (hz : i.zero = some z)
    (hsize : i.size = T.size) (hby : i.bytes = bytes) (hzs : z.cells.size = T.size) (hsz : 0 < T.size)
    (S Sy S2 : Nat → Prop) (xs ys : List α) (v : Value) (hO : Own T e w S xs v) (A : Option Addr) (c : Nat) (hy : RowAny T w Sy A ys)
    (h63 : xs.length + ys.length ≤ maxLen) (hbytes : (xs.length + ys.length) * bytes ≤ 140737488355328)
    (hSo : ∀ b, S b → Old w b) (hSy : ∀ b, Sy b → Old w b ∧ v.ownBlock ≠ some b) (h1 : ∀ b, S b → S2 b) (h2 : ∀ b, Sy b → S2 b) (h3 : S2 w.heap.size) :
    ∃ v' w', (Builtin.append_ #[t, t] ty #[v, .slice A ys.length c]).run P w = .ok v' w' ∧ Own T e w' (fun b => S2 b ∧ Old w' b) (xs ++ ys) v' ∧ w.grownBy w' v.ownBlock := by
  by_cases hp : 0 < ys.length
  · obtain ⟨b, off, rfl, hrow⟩ := hy hp
    obtain ⟨news, hnl, hnc, hn1, hnrel⟩ := cells_of_row hrow
    obtain ⟨cells, S', hown, hrel, hg, hS'⟩ := cells_of_own hO
    obtain ⟨v', w', hrun, hown', hgrow, _, hat⟩ := run_append_own_at (P := P) w 0 t ty e i z T.size bytes ht hi hz hsize hby hzs hsz v xs.length cells hown ⟨b, off, none⟩ ys.length c news hnl
      (fun j u hu => by rw [Go.WideShapes.add_plain]; exact hnc j u hu) hn1 h63 hbytes (Nat.zero_le _)
    refine ⟨v', w', hrun, ?_, hgrow⟩
    have hcl := hown.1
    have hne : ∀ x, S' x ∨ Sy x → w'.heap[x]? = w.heap[x]? := fun x hx => by
      rcases hx with hx | hx
      · exact hgrow.block x (hSo x (hS' x hx).1) (fun e => (hS' x hx).2 e.symm)
      · exact hgrow.block x (hSy x hx).1 (fun e => (hSy x hx).2 e.symm)
    refine own_of_cells (S' := fun x => S' x ∨ Sy x) (by rw [List.length_append]; exact hown') (fun k hk => ?_) (fun g hg' => ?_) (fun x hx => ?_)
    · rw [List.length_append] at hk
      rcases Nat.lt_or_ge k xs.length with hlt | hge
      · have e1 : (xs ++ ys)[k]'(by rw [List.length_append]; omega) = xs[k] := List.getElem_append_left hlt
        have hk1 : k * T.size + T.size ≤ cells.length := by
          have : (k + 1) * T.size ≤ xs.length * T.size := Nat.mul_le_mul_right _ hlt
          rw [Nat.add_mul] at this; omega
        have e2 : ((cells ++ news).drop (k * T.size)).take T.size = (cells.drop (k * T.size)).take T.size := by
          rw [List.drop_append_of_le_length (by omega), List.take_append_of_le_length (by rw [List.length_drop]; omega)]
        rw [e1, e2]
        exact T.mono (hrel k hlt) (fun _ h => .inl h) (fun x hx => hne x (.inl hx))
      · have e1 : (xs ++ ys)[k]'(by rw [List.length_append]; omega) = ys[k - xs.length]'(by omega) := List.getElem_append_right hge
        have hk1 : xs.length * T.size ≤ k * T.size := Nat.mul_le_mul_right _ hge
        have e2 : (cells ++ news).drop (k * T.size) = news.drop ((k - xs.length) * T.size) := by
          rw [List.drop_append, List.drop_eq_nil_of_le (by omega), List.nil_append, hcl, Nat.sub_mul]
        rw [e1, e2]
        exact T.mono (hnrel _ (by omega)) (fun _ h => .inr h) (fun x hx => hne x (.inr hx))
    · have hlt := (hown'.lt g hg').2
      refine ⟨?_, hlt⟩
      rcases hat with e | e
      · rw [e] at hg'; exact h1 _ (hg g hg').1
      · rw [e] at hg'; simp at hg'; exact hg' ▸ h3
    · have hx2 : S2 x := by
        rcases hx with hx | hx
        · exact h1 _ (hS' x hx).1
        · exact h2 _ hx
      have hold : Old w x := by
        rcases hx with hx | hx
        · exact hSo x (hS' x hx).1
        · exact (hSy x hx).1
      refine ⟨⟨hx2, Nat.lt_of_lt_of_le hold hgrow.size⟩, ?_⟩
      rcases hat with e | e
      · rw [e]
        rcases hx with hx | hx
        · exact (hS' x hx).2
        · exact (hSy x hx).2
      · rw [e]
        intro h
        simp at h
        subst h
        exact absurd hold (Nat.lt_irrefl _)
  · have hnil : ys = [] := List.eq_nil_of_length_eq_zero (by omega)
    subst hnil
    have hO2 : Own T e w (fun b => S2 b ∧ Old w b) xs v := hO.mono (fun b h => ⟨h1 b h, hSo b h⟩) (fun _ _ => rfl)
    refine ⟨v, w, ?_, by simpa using hO2, World.grownBy.refl w _⟩
    rcases hO with ⟨rfl, rfl⟩ | ⟨g, cap, cur, S', rfl, hg, hB, hh1, _⟩
    · cases A <;> simp [Builtin.append_, run_underlying ht, sizeOf, typeInfo, hi, Builtin.lenOf, Builtin.firstCells, loadCells, loadCellsFrom]
    · cases A <;> simp [Builtin.append_, run_underlying ht, sizeOf, typeInfo, hi, Builtin.lenOf, Builtin.firstCells, hh1, storeCells, loadCells, loadCellsFrom]

theorem wp_app {α : Type} (T : Ty α) {w : World} {o : Oper} {a : Act} {K : Act → World → Prop} {Q : Exit → Act → World → Prop} (s x : Operand) (t : TypeId)
    (ho : o.op = .call { callee := .builtin .append, args := #[s, x], argTypes := #[t, t] })
    (e : TypeId) (i : TypeInfo) (z : Value) (bytes : Nat) (ht : P.underlying t = some (.slice e)) (hi : P.info? e = some i) (hz : i.zero = some z)
    (hsize : i.size = T.size) (hby : i.bytes = bytes) (hzs : z.cells.size = T.size) (hsz : 0 < T.size)
    (S Sy S2 : Nat → Prop) (xs ys : List α) (v : Value) (hs : a.eval s = v) (hO : Own T e w S xs v) (A : Option Addr) (m c : Nat) (hx : a.eval x = .slice A m c) (hm : m = ys.length) (hy : RowAny T w Sy A ys)
    (h63 : xs.length + ys.length ≤ maxLen) (hbytes : (xs.length + ys.length) * bytes ≤ 140737488355328)
    (hSo : ∀ b, S b → Old w b) (hSy : ∀ b, Sy b → Old w b ∧ v.ownBlock ≠ some b) (h1 : ∀ b, S b → S2 b) (h2 : ∀ b, Sy b → S2 b) (h3 : S2 w.heap.size)
    (h : ∀ v' w', Own T e w' (fun b => S2 b ∧ Old w' b) (xs ++ ys) v' → w.grownBy w' v.ownBlock → K (a.put o.dst v') w') : o.wp P a w K Q := by
  subst hm
  obtain ⟨v', w', hrun, h4, h5⟩ := run_app (P := P) T w t o.type e i z bytes ht hi hz hsize hby hzs hsz S Sy S2 xs ys v hO A c hy h63 hbytes hSo hSy h1 h2 h3
  unfold Oper.wp execOp
  simp only [ho, resolve, invoke, builtin, Sem.run_bind, Sem.run_pure, Result.andThen_ok, List.map_toArray, List.map_cons, List.map_nil, hs, hx, hrun]
  exact h v' w' h4 h5

theorem wpList_app {α : Type} (T : Ty α) {w : World} {ops : Array Oper} {rest : List Oper} {o : Oper} {a : Act} {Q : Exit → Act → World → Prop} (hgd : Region.wanted o (yielded ops a.tmps) = true) (s x : Operand) (t : TypeId)
    (ho : o.op = .call { callee := .builtin .append, args := #[s, x], argTypes := #[t, t] })
    (e : TypeId) (i : TypeInfo) (z : Value) (bytes : Nat) (ht : P.underlying t = some (.slice e)) (hi : P.info? e = some i) (hz : i.zero = some z)
    (hsize : i.size = T.size) (hby : i.bytes = bytes) (hzs : z.cells.size = T.size) (hsz : 0 < T.size)
    (S Sy S2 : Nat → Prop) (xs ys : List α) (v : Value) (hs : a.eval s = v) (hO : Own T e w S xs v) (A : Option Addr) (m c : Nat) (hx : a.eval x = .slice A m c) (hm : m = ys.length) (hy : RowAny T w Sy A ys)
    (h63 : xs.length + ys.length ≤ maxLen) (hbytes : (xs.length + ys.length) * bytes ≤ 140737488355328)
    (hSo : ∀ b, S b → Old w b) (hSy : ∀ b, Sy b → Old w b ∧ v.ownBlock ≠ some b) (h1 : ∀ b, S b → S2 b) (h2 : ∀ b, Sy b → S2 b) (h3 : S2 w.heap.size)
    (h : ∀ v' w', Own T e w' (fun b => S2 b ∧ Old w' b) (xs ++ ys) v' → w.grownBy w' v.ownBlock → wpList P ops Q rest (a.put o.dst v') w') : wpList P ops Q (o :: rest) a w :=
  BigFrame.wpList_want hgd fun _ hK => wp_app T s x t ho e i z bytes ht hi hz hsize hby hzs hsz S Sy S2 xs ys v hs hO A m c hx hm hy h63 hbytes hSo hSy h1 h2 h3 fun v' w' h4 h5 => hK _ _ (h v' w' h4 h5)
end

/-- The one-element row that append(s, x) makes of x first. -/
theorem row_one {α : Type} {T : Ty α} {w : World} {S : Nat → Prop} {x : α} {cs : List Value} (e : TypeId) (hr : T.rel w S x cs) (hS : ∀ b, S b → Old w b) :
    RowAny T (w.alloc (.cells cs.toArray e)) S (some ⟨w.heap.size, 0, none⟩) [x] := fun _ =>
  ⟨w.heap.size, 0, rfl, fun k hk => by
    obtain rfl : k = 0 := by simpa using hk
    refine ⟨cs, T.mono hr (fun b h => h) (fun b h => Below.heap_alloc _ _ _ (hS b h)), fun j u hu => ?_⟩
    simp only [Nat.zero_mul, Nat.zero_add]
    rw [(Blk.new w e cs.toArray).cell]
    simpa using hu⟩
theorem Own.nil_ {α : Type} {T : Ty α} {e : TypeId} {w : World} {S : Nat → Prop} : Own T e w S ([] : List α) (.slice none 0 0) := .inl ⟨rfl, rfl⟩
/-- An empty slice with room, newly made. -/
theorem Own.made {α : Type} {T : Ty α} {e : TypeId} (w : World) {S : Nat → Prop} (cur : Array Value) (cap : Nat) (hs : cur.size = cap * T.size) (hm : cap ≤ maxLen) (hS : S w.heap.size) :
    Own T e (w.alloc (.cells cur e)) S ([] : List α) (.slice (some ⟨w.heap.size, 0, none⟩) 0 cap) :=
  .inr ⟨_, cap, cur, fun _ => False, rfl, hS, Blk.new _ _ _, Nat.zero_le _, hm, hs, fun _ h => h.elim, RowAt.zero⟩
/-- What is owned stays so while other blocks are made. -/
theorem Own.below {α : Type} {T : Ty α} {e : TypeId} {w w' : World} {S : Nat → Prop} {xs : List α} {v : Value} (h : Own T e w S xs v) (hb : Below w.heap.size w w') (hS : ∀ b, S b → Old w b) : Own T e w' S xs v :=
  h.mono (fun _ h => h) fun b hb' => hb.block b (hS b hb')
theorem own_lt {α : Type} {T : Ty α} {e : TypeId} {w : World} {S : Nat → Prop} {xs : List α} {v : Value} {B : Nat} (h : Own T e w S xs v) (hS : ∀ b, S b → b < B) : ∀ k, v.ownBlock = some k → k < B := fun k hk => by
  rcases h with ⟨rfl, _⟩ | ⟨g, cap, cur, S', rfl, hg, _⟩
  · simp [Value.ownBlock] at hk
  · simp [Value.ownBlock] at hk; exact hk ▸ hS g hg
end Go.Proofs.YtjiobgfaohldhaaGreatDoor
