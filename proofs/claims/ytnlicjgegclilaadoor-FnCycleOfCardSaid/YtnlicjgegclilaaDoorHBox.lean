/- l20Turns and DrawScheduleValid: some list of numbers, in memory of the call's own. A variable of the call's own beside a slice that grows and a reader that goes on. One round of l20History: the transaction that grows, the values seen, the values stored, the history so far and the reader. l20Op: some operation. -/
import Derived.Test.YtnlicjgegclilaaDoorPut
import Derived.Test.YtnlicjgegclilaaDoorToA
namespace Go.Proofs.YtnlicjgegclilaaDoor
open Go.RowKit
set_option linter.unusedVariables false
set_option linter.unusedSimpArgs false

/-- A list that was drawn: new memory; the reader has gone on. -/
def Drawn {α : Type} (T : Ty α) (e : TypeId) (w : World) (R P n : Nat) (en : Ending) (w' : World) : Prop :=
  ∃ (xs : List α) (v : Value), en = .returned v ∧ xs.length ≤ n ∧ Own T e w' (New w w') xs v ∧ Rd w' R P ∧ Gr w w' R

/-- What DrawScheduleValid answers. -/
def DrawnSched (w : World) (e : Ending) (w' : World) : Prop := ∃ (many : Int) (xs : List Int) (v : Value), e = .returned (.tuple #[.int .i64 many, v]) ∧ xs.length ≤ 100 ∧ Own tInt 3 w' (New w w') xs v ∧ Below w.heap.size w w'
structure Box {α : Type} (T : Ty α) (e : TypeId) (w W : World) (R P : Nat) (K : Nat → Prop) (xs : List α) (v : Value) (B : Nat) (t : TypeId) (cs : Array Value) : Prop where
  rd : Rd W R P
  gr : Gr w W R
  own : Own T e W (fun b => K b ∧ b < B) xs v
  blk : Blk W B t cs
  ge : w.heap.size ≤ B
  rlt : R < w.heap.size
section
variable {α : Type} {T : Ty α} {e : TypeId} {w W W' : World} {R P : Nat} {K : Nat → Prop} {xs : List α} {v : Value} {B : Nat} {t : TypeId} {cs : Array Value}
theorem Box.make (hr : Rd W R P) (hg : Gr w W R) (ho : Own T e W (fun b => K b ∧ Old W b) xs v) (hR : R < w.heap.size) : Box T e w (W.alloc (.cells cs t)) R P K xs v W.heap.size t cs :=
  ⟨hr.alloc _, gr_alloc hg _, ho.mono (fun _ h => h) (fun b hb => Below.heap_alloc _ _ _ hb.2), Blk.new _ _ _, hg.size, hR⟩
theorem Box.pick (h : Box T e w W R P K xs v B t cs) {Q : Nat} (hr : Rd W' R Q) (hg : Gr W W' R) (hK : ∀ b, K b → w.heap.size ≤ b) : Box T e w W' R Q K xs v B t cs :=
  ⟨hr, gr_trans h.gr hg, h.own.mono (fun _ h => h) (fun b hb => hg.block b (Nat.lt_trans hb.2 h.blk.lt) (fun e => by injection e with e; have := hK b hb.1; have := h.rlt; omega)),
    h.blk.of (hg.block B h.blk.lt (fun e => by injection e with e; have := h.ge; have := h.rlt; omega)), h.ge, h.rlt⟩
theorem Box.alloc (h : Box T e w W R P K xs v B t cs) (o : Obj) : Box T e w (W.alloc o) R P K xs v B t cs :=
  ⟨h.rd.alloc o, gr_alloc h.gr o, h.own.mono (fun _ h => h) (fun b hb => Below.heap_alloc _ _ _ (Nat.lt_trans hb.2 h.blk.lt)), h.blk.alloc o, h.ge, h.rlt⟩
theorem Box.set (h : Box T e w W R P K xs v B t cs) (i : Nat) (u : Value) : Box T e w (W.setCell ⟨B, i, none⟩ u) R P K xs v B t (cs.setIfInBounds i u) :=
  ⟨h.rd.far (p := ⟨B, i, none⟩) (Nat.lt_of_lt_of_le h.rlt h.ge) u, gr_setCell h.gr (p := ⟨B, i, none⟩) (.inr h.ge) u,
    h.own.mono (fun _ h => h) (fun b hb => Below.heap_setCell _ _ _ b (Nat.ne_of_lt hb.2)), h.blk.set_ i u, h.ge, h.rlt⟩
theorem Box.open_ (h : Box T e w W R P K xs v B t cs) : Own T e W (fun b => K b ∧ Old W b) xs v := h.own.mono (fun b hb => ⟨hb.1, Nat.lt_trans hb.2 h.blk.lt⟩) (fun _ _ => rfl)
theorem Box.up (h : Box T e w W R P K xs v B t cs) {Q : Nat} (hq : P ≤ Q) : Box T e w W R Q K xs v B t cs := ⟨h.rd.up hq, h.gr, h.own, h.blk, h.ge, h.rlt⟩
theorem Row.inGr {lo hi : Nat} {A : Option Addr} (h : Row T W (In lo hi) A xs) (g : Gr W W' R) (hR : R < lo) (hh : hi ≤ W.heap.size) : Row T W' (In lo hi) A xs :=
  h.mono (fun _ h => h) fun b hb => g.block b (Nat.lt_of_lt_of_le hb.2 hh) (fun e => by injection e with e; have := hb.1; omega)
theorem Row.inAlloc {lo hi : Nat} {A : Option Addr} (h : Row T W (In lo hi) A xs) (hh : hi ≤ W.heap.size) (o : Obj) : Row T (W.alloc o) (In lo hi) A xs :=
  h.mono (fun _ h => h) fun b hb => Below.heap_alloc _ _ _ (Nat.lt_of_lt_of_le hb.2 hh)
theorem Row.inSet {lo hi : Nat} {A : Option Addr} (h : Row T W (In lo hi) A xs) {p : Addr} (hp : hi ≤ p.block) (u : Value) : Row T (W.setCell p u) (In lo hi) A xs :=
  h.mono (fun _ h => h) fun b hb => Below.heap_setCell _ _ _ b (by have := hb.2; omega)
theorem Row.inOnly {lo hi : Nat} {A : Option Addr} {K' : Nat → Prop} (h : Row T W (In lo hi) A xs) (k : Only K' W W') (hh : hi ≤ W.heap.size) (hK : ∀ b, lo ≤ b → b < hi → ¬ K' b) : Row T W' (In lo hi) A xs :=
  h.mono (fun _ h => h) fun b hb => k.block b (Nat.lt_of_lt_of_le hb.2 hh) (hK b hb.1 hb.2)
theorem Row.inOld {lo hi : Nat} {A : Option Addr} (h : Row T W (In lo hi) A xs) (hh : hi ≤ W.heap.size) : Row T W (Old W) A xs := h.mono (fun b hb => Nat.lt_of_lt_of_le hb.2 hh) (fun _ _ => rfl)
end
/-- One value after the other goes into a block, from place o on. -/
def setRow (w : World) (g : Nat) : Nat → List Value → World
  | _, [] => w
  | o, u :: r => setRow (w.setCell ⟨g, o, none⟩ u) g (o + 1) r
theorem setRow_far (g : Nat) : ∀ (cs : List Value) (w : World) (o b : Nat), b ≠ g → (setRow w g o cs).heap[b]? = w.heap[b]?
  | [], w, o, b, _ => rfl
  | u :: r, w, o, b, hb => by rw [setRow, setRow_far g r _ _ b hb]; exact Below.heap_setCell _ _ _ _ hb
theorem setRow_size (g : Nat) : ∀ (cs : List Value) (w : World) (o : Nat), (setRow w g o cs).heap.size = w.heap.size
  | [], w, o => rfl
  | u :: r, w, o => by rw [setRow, setRow_size g r]; simp [World.setCell]
theorem setRow_gr {a : World} {R g : Nat} (hg : a.heap.size ≤ g) : ∀ (cs : List Value) (w : World) (o : Nat), Gr a w R → Gr a (setRow w g o cs) R
  | [], w, o, h => h
  | u :: r, w, o, h => setRow_gr hg r _ _ (gr_setCell h (p := ⟨g, o, none⟩) (.inr hg) u)
theorem setRow_blk {g : Nat} {e : TypeId} : ∀ (cs : List Value) (w : World) (o : Nat) (cur : Array Value), Blk w g e cur → o + cs.length ≤ cur.size →
    ∃ cur', Blk (setRow w g o cs) g e cur' ∧ cur'.size = cur.size ∧ (∀ i, i < o ∨ o + cs.length ≤ i → cur'[i]? = cur[i]?) ∧ ∀ j u, cs[j]? = some u → cur'[o + j]? = some u
  | [], w, o, cur, h, _ => ⟨cur, h, rfl, fun _ _ => rfl, fun j u hu => by simp at hu⟩
  | x :: r, w, o, cur, h, hs => by
    rw [List.length_cons] at hs
    obtain ⟨cur', h1, h2, h3, h4⟩ := setRow_blk r _ (o + 1) _ (h.set_ o x) (by rw [Array.size_setIfInBounds]; omega)
    refine ⟨cur', h1, by rw [h2, Array.size_setIfInBounds], fun i hi => ?_, fun j u hu => ?_⟩
    · rw [List.length_cons] at hi
      rw [h3 i (by omega), Array.getElem?_setIfInBounds_ne (by omega)]
    · cases j with
      | zero =>
        simp only [List.getElem?_cons_zero, Option.some.injEq] at hu
        rw [Nat.add_zero, h3 o (by omega), ← hu]
        simp [show o < cur.size by omega]
      | succ j =>
        rw [List.getElem?_cons_succ] at hu
        have := h4 j u hu
        rwa [show o + 1 + j = o + (j + 1) by omega] at this
section
variable {α : Type} {T : Ty α} {e : TypeId} {w w' : World} {S : Nat → Prop} {xs : List α} {v : Value} {g c n : Nat}
theorem Own.form (h : Own T e w S xs v) (h0 : 0 < xs.length) : ∃ g c, v = .slice (some ⟨g, 0, none⟩) xs.length c ∧ S g := by
  rcases h with ⟨rfl, rfl⟩ | ⟨g, cap, cur, S', rfl, hg, _⟩
  · cases h0
  · exact ⟨g, cap, rfl, hg⟩
theorem Own.el (h : Own T e w S xs (.slice (some ⟨g, 0, none⟩) n c)) {k : Nat} (hk : k < xs.length) : ∃ cs, T.rel w (fun b => S b ∧ b ≠ g) xs[k] cs ∧ (∀ j u, cs[j]? = some u → w.cell? ⟨g, k * T.size + j, none⟩ = some u) ∧ ∀ i, w.frozen? ⟨g, i, none⟩ = false := by
  rcases h with ⟨h, rfl⟩ | ⟨g', cap, cur, S', he, hg, hB, h1, h2, h3, h4, h5⟩
  · cases hk
  · injection he with e1 e2 e3
    injection e1 with e1
    injection e1 with e1
    subst e1
    obtain ⟨cs, hr, hcs⟩ := h5 k hk
    exact ⟨cs, T.mono hr h4 (fun _ _ => rfl), fun j u hu => by have := hcs j u hu; rwa [Nat.zero_add] at this, fun i => hB.frozen i⟩
theorem Own.setEl (h : Own T e w S xs (.slice (some ⟨g, 0, none⟩) n c)) {k : Nat} (hk : k < xs.length) {x : α} {cs : List Value} (hx : T.rel w (fun b => S b ∧ b ≠ g) x cs) :
    Own T e (setRow w g (k * T.size) cs) S (xs.set k x) (.slice (some ⟨g, 0, none⟩) n c) := by
  rcases h with ⟨h, rfl⟩ | ⟨g', cap, cur, S', he, hg, hB, h1, h2, h3, h4, h5⟩
  · cases hk
  · injection he with e1 e2 e3
    injection e1 with e1
    injection e1 with e1
    subst e1
    subst e2
    subst e3
    have hl := T.len hx
    have hm : k * T.size + T.size ≤ c * T.size := by rw [← Nat.succ_mul]; exact Nat.mul_le_mul_right _ (by omega)
    obtain ⟨cur', g1, g2, g3, g4⟩ := setRow_blk cs w (k * T.size) cur hB (by rw [hl, h3]; exact hm)
    refine .inr ⟨g, c, cur', fun b => S b ∧ b ≠ g, by rw [List.length_set], hg, g1, by rw [List.length_set]; exact h1, h2, by rw [g2, h3], fun _ h => h, fun i hi => ?_⟩
    rw [List.length_set] at hi
    by_cases hik : k = i
    · subst hik
      refine ⟨cs, ?_, fun j u hu => ?_⟩
      · rw [List.getElem_set_self]
        exact T.mono hx (fun _ h => h) (fun b hb => setRow_far g cs w _ b hb.2)
      · rw [g1.cell, Nat.zero_add]
        exact g4 j u hu
    · obtain ⟨cs', hr, hcs⟩ := h5 i hi
      refine ⟨cs', ?_, fun j u hu => ?_⟩
      · rw [List.getElem_set_ne hik]
        exact T.mono hr h4 (fun b hb => setRow_far g cs w _ b (h4 b hb).2)
      · have hj : j < T.size := by rw [← T.len hr]; exact (List.getElem?_eq_some_iff.1 hu).1
        have := hcs j u hu
        rw [hB.cell] at this
        rw [g1.cell, g3 _ ?_]
        · exact this
        · rw [hl, Nat.zero_add]
          rcases Nat.lt_or_ge i k with h6 | h6
          · have : i * T.size + T.size ≤ k * T.size := by rw [← Nat.succ_mul]; exact Nat.mul_le_mul_right _ (by omega)
            omega
          · have : k * T.size + T.size ≤ i * T.size := by rw [← Nat.succ_mul]; exact Nat.mul_le_mul_right _ (by omega)
            omega
end
theorem Own.cellInt {e : TypeId} {w : World} {S : Nat → Prop} {xs : List Int} {g c n : Nat} (h : Own tInt e w S xs (.slice (some ⟨g, 0, none⟩) n c)) {k : Nat} (hk : k < xs.length) : w.cell? ⟨g, k, none⟩ = some (.int .i64 xs[k]) ∧ w.frozen? ⟨g, k, none⟩ = false := by
  obtain ⟨cs, hr, hc, hf⟩ := h.el hk
  have h1 : cs = [.int .i64 xs[k]] := hr
  subst h1
  have := hc 0 _ rfl
  rw [show k * tInt.size + 0 = k from Nat.mul_one k] at this
  exact ⟨this, hf k⟩
theorem Own.setInt {e : TypeId} {w : World} {S : Nat → Prop} {xs : List Int} {g c n : Nat} (h : Own tInt e w S xs (.slice (some ⟨g, 0, none⟩) n c)) {k : Nat} (hk : k < xs.length) (y : Int) : Own tInt e (w.setCell ⟨g, k, none⟩ (.int .i64 y)) S (xs.set k y) (.slice (some ⟨g, 0, none⟩) n c) := by
  have := h.setEl hk (x := y) (cs := [.int .i64 y]) rfl
  rw [show k * tInt.size = k from Nat.mul_one k] at this
  exact this

section
variable {w W W' : World} {R P gs lo : Nat} {xs : List Txn} {v : Value} {ss : List Int} {sv : Value} {B : Nat} {cs : Array Value}
end
theorem Own.alone {e : TypeId} {w : World} {S : Nat → Prop} {xs : List Int} {g c n : Nat} (h : Own tInt e w S xs (.slice (some ⟨g, 0, none⟩) n c)) : Own tInt e w (fun b => b = g) xs (.slice (some ⟨g, 0, none⟩) n c) := by
  rcases h with ⟨h, rfl⟩ | ⟨g', cap, cur, S', he, hg, hB, h1, h2, h3, h4, h5⟩
  · cases h
  · injection he with e1 e2 e3
    injection e1 with e1
    injection e1 with e1
    subst e1
    subst e2
    subst e3
    exact .inr ⟨g, c, cur, fun _ => False, rfl, rfl, hB, h1, h2, h3, fun _ h => h.elim, fun k hk => h5 k hk⟩
section
variable {w W W' : World} {R P gs lo : Nat} {xs : List Txn} {v : Value} {ss : List Int} {sv : Value} {B : Nat} {cs : Array Value} {gq cq : Nat} {qs : List Int} {st : List Op} {u : Value}
end
def sevenOps : Array Value := #[.int .i64 0, .int .i64 0, .int .i64 0, .int .i64 3, .int .i64 0, .int .i64 1, .int .i64 1, .int .i64 3, .int .i64 0, .int .i64 1, .int .i64 (-1), .int .i64 0, .int .i64 1, .int .i64 0, .int .i64 100, .int .i64 2, .int .i64 0, .int .i64 0, .int .i64 1, .int .i64 0, .int .i64 (-1)]
/-- Some operation. -/
def DrawnOp (w : World) (R P : Nat) (e : Ending) (w' : World) : Prop := ∃ a b c : Int, e = .returned (.agg #[.int .i64 a, .int .i64 b, .int .i64 c]) ∧ Rd w' R P ∧ Gr w w' R
end Go.Proofs.YtnlicjgegclilaaDoor
