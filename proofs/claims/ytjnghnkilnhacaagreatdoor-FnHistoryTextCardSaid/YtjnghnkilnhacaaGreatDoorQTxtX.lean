/- The row of transactions that a loop over an iterator collects; the operations of each lie in a block of their own. The program's ReadHistory. -/
import Derived.Test.YtjnghnkilnhacaaGreatDoorQHoldX
import Derived.Test.YtjnghnkilnhacaaGreatDoorQDelOp
import Derived.Test.YtjnghnkilnhacaaGreatDoorQOwnList
namespace Go.Proofs.YtjnghnkilnhacaaGreatDoor
open Go.RowKit
set_option linter.unusedVariables false
set_option linter.unusedSimpArgs false

/-- Operations in a block of their own. -/
def HoldOp (lo : Nat) (W : World) (ops : List Op) (v : Value) (g : Nat) : Prop :=
  ∃ A c, v = .slice A ops.length c ∧ ops.length ≤ c ∧ c ≤ maxLen ∧ (0 < ops.length → A = some ⟨g, 0, none⟩ ∧ lo ≤ g ∧ (∃ cur, Blk W g 46 cur ∧ ops.length * 3 ≤ cur.size) ∧ RowAt tOp W (fun _ => False) g 0 ops)
theorem HoldOp.of {lo : Nat} {w w' : World} {ops : List Op} {v : Value} {g : Nat} (h : Hold tOp 46 w' (New w w') ops v g) (hl : lo ≤ w.heap.size) : HoldOp lo w' ops v g := by
  obtain ⟨A, c, rfl, h1, h2, h3⟩ := h
  refine ⟨A, c, rfl, h1, h2, fun hp => ?_⟩
  obtain ⟨rfl, hg, hB, S', _, hr⟩ := h3 hp
  exact ⟨rfl, Nat.le_trans hl hg.1, hB, fun k hk => by obtain ⟨cs, e, hc⟩ := hr k hk; exact ⟨cs, e, hc⟩⟩
theorem HoldOp.keep {lo : Nat} {W W' : World} {ops : List Op} {v : Value} {g : Nat} (h : HoldOp lo W ops v g) (hk : ∀ cur, Blk W g 46 cur → W'.heap[g]? = W.heap[g]?) : HoldOp lo W' ops v g := by
  obtain ⟨A, c, rfl, h1, h2, h3⟩ := h
  refine ⟨A, c, rfl, h1, h2, fun hp => ?_⟩
  obtain ⟨rfl, hg, ⟨cur, hB, hs⟩, hr⟩ := h3 hp
  have e := hk cur hB
  exact ⟨rfl, hg, ⟨cur, hB.of e, hs⟩, hr.mono (fun _ h => h) (fun _ h => h.elim) e⟩
theorem HoldOp.hold {lo : Nat} {W : World} {ops : List Op} {v : Value} {g : Nat} (h : HoldOp lo W ops v g) {S : Nat → Prop} (hS : 0 < ops.length → (∃ cur, Blk W g 46 cur) → lo ≤ g → S g) : Hold tOp 46 W S ops v g := by
  obtain ⟨A, c, rfl, h1, h2, h3⟩ := h
  refine ⟨A, c, rfl, h1, h2, fun hp => ?_⟩
  obtain ⟨rfl, hg, ⟨cur, hB, hs⟩, hr⟩ := h3 hp
  exact ⟨rfl, hS hp ⟨cur, hB⟩ hg, ⟨cur, hB, hs⟩, fun _ => False, fun _ h => h.elim, hr⟩
abbrev QT := Txn × Nat × Value
def cellQ (q : QT) : List Value := [.int .i64 q.1.Session, q.2.2, .bool q.1.Done]
def cellsQ : List QT → List Value
  | [] => []
  | q :: qs => cellQ q ++ cellsQ qs
theorem cellsQ_snoc (q : QT) : ∀ qs : List QT, cellsQ (qs ++ [q]) = cellsQ qs ++ cellQ q
  | [] => by simp [cellsQ]
  | p :: qs => by rw [List.cons_append, cellsQ, cellsQ_snoc q qs, cellsQ, List.append_assoc]
theorem cellsQ_get : ∀ (qs : List QT) (k : Nat) (hk : k < qs.length) (j : Nat) (u : Value), (cellQ qs[k])[j]? = some u → (cellsQ qs)[k * 3 + j]? = some u
  | q :: qs, 0, _, j, u, h => by
    have hj : j < 3 := by
      rcases Nat.lt_or_ge j 3 with h1 | h1
      · exact h1
      · rw [List.getElem?_eq_none (by simpa [cellQ] using h1)] at h; cases h
    rw [cellsQ, Nat.zero_mul, Nat.zero_add, List.getElem?_append_left (by simpa [cellQ] using hj)]
    exact h
  | q :: qs, k + 1, hk, j, u, h => by
    have ih := cellsQ_get qs k (by simpa using hk) j u h
    rw [cellsQ, List.getElem?_append_right (by simp [cellQ]; omega)]
    have e : (k + 1) * 3 + j - (cellQ q).length = k * 3 + j := by simp [cellQ]; omega
    rw [e]
    exact ih
theorem blk_not_row {W : World} {B : Nat} {t e : TypeId} {cs : Array Value} (h : Blk W B t cs) (hte : t ≠ e) {base size k : Nat} {v : Value} {xs : List Value} (hr : W.ownsRow base e size v k xs) : some B ≠ v.ownBlock := by
  rcases hr.2 with ⟨rfl, _⟩ | ⟨g, cap, cur, rfl, _, hgb, _⟩
  · simp [Value.ownBlock]
  · intro e'
    obtain rfl : B = g := by simpa [Value.ownBlock] using e'
    exact Blk.ne_ h hgb hte rfl
theorem cell_three_new (w : World) (a b c : Value) (t : TypeId) : ∀ j u, [a, b, c][j]? = some u → (w.alloc (.cells #[a, b, c] t)).cell? ((⟨w.heap.size, 0, none⟩ : Addr).add j) = some u := by
  intro j u hj
  have e : (⟨w.heap.size, 0, none⟩ : Addr).add j = ⟨w.heap.size, j, none⟩ := by rw [Go.WideShapes.add_plain, Nat.zero_add]
  rw [e, (Blk.new w t #[a, b, c]).cell]
  simpa using hj
/-- What the loop holds: the row so far in variable Bh, the results' variables p2 and p3 as they were, the iterator's variables. -/
structure RH (w : World) (Bh Bq Bs Bv p2 p3 : Nat) (pre : List Part) (qs : List QT) (W : World) : Prop where
  box : ∃ v, Boxed W Bh 23 v ∧ W.ownsRow w.heap.size 41 3 v qs.length (cellsQ qs) ∧ True
  part : ∀ q ∈ qs, HoldOp w.heap.size W q.1.Ops q.2.2 q.2.1 ∧ q.2.1 < W.heap.size
  up : qs.Pairwise fun a b => a.2.1 < b.2.1
  rd : (pre.map partT).mapM readTL = some (qs.map (·.1))
  r2 : Boxed W p2 23 (.slice none 0 0)
  r3 : Boxed W p3 4 (.bool false)
  bq : ∃ u, Boxed W Bq 9 u
  bs : ∃ u, Boxed W Bs 9 u
  bv : ∃ u, Boxed W Bv 3 u
  bel : Below w.heap.size w W
theorem boxed_blk {W : World} {B : Nat} {t : TypeId} {v : Value} (h : Boxed W B t v) : Blk W B t #[v] := h
theorem boxed_grown {W W' : World} {row : Option Nat} {B : Nat} {t : TypeId} {v : Value} (h : Boxed W B t v) (hg : W.grownBy W' row) (hr : ∀ r, row = some r → ∃ o : Obj, W.heap[r]? = some o ∧ o.isCells = false) : Boxed W' B t v :=
  h.kept hg (fun e => by
    obtain ⟨o, ho, hc⟩ := hr B e.symm
    rw [show W.heap[B]? = _ from h] at ho
    cases ho
    cases hc)
theorem rh_own {w : World} {Bh Bq Bs Bv p2 p3 B : Nat} (hB : w.heap.size ≤ B) : OwnFrom B (fun pre W => ∃ qs, RH w Bh Bq Bs Bv p2 p3 pre qs W) := by
  rintro pre X Y row ⟨qs, h⟩ hg hr
  have hr2 := fun r e => (hr r e).2
  refine ⟨qs, holdsRow_own w.heap.size Bh 23 41 3 (fun qs : List QT => qs.length) cellsQ (fun _ _ => True) qs X Y row h.box hg hr2, fun q hq => ?_, h.up, h.rd, boxed_grown h.r2 hg hr2, boxed_grown h.r3 hg hr2, ?_, ?_, ?_, h.bel.grown hg h.bel.size (fun j e => Nat.le_trans hB (hr j e).1)⟩
  · obtain ⟨h1, h2⟩ := h.part q hq
    refine ⟨h1.keep fun cur hc => hg.block _ hc.lt (fun e => ?_), Nat.lt_of_lt_of_le h2 hg.size⟩
    obtain ⟨o, ho, hcc⟩ := hr2 _ e.symm
    rw [show X.heap[q.2.1]? = _ from hc] at ho
    cases ho
    cases hcc
  · obtain ⟨u, hu⟩ := h.bq; exact ⟨u, boxed_grown hu hg hr2⟩
  · obtain ⟨u, hu⟩ := h.bs; exact ⟨u, boxed_grown hu hg hr2⟩
  · obtain ⟨u, hu⟩ := h.bv; exact ⟨u, boxed_grown hu hg hr2⟩
/-- A store into the iterator's own variable. -/
theorem RH.setBs {w W : World} {Bh Bq Bs Bv p2 p3 : Nat} {pre : List Part} {qs : List QT} (h : RH w Bh Bq Bs Bv p2 p3 pre qs W) (hs : w.heap.size ≤ Bs) (hq : Bq ≠ Bs) (u : Value) : RH w Bh Bq Bs Bv p2 p3 pre qs (W.setCell ⟨Bs, 0, none⟩ u) := by
  obtain ⟨z, hz⟩ := h.bs
  have far : ∀ {b t cs}, Blk W b t cs → t ≠ 9 → (W.setCell ⟨Bs, 0, none⟩ u).heap[b]? = W.heap[b]? := fun hb ht => heap_set_far W Bs _ u (Blk.ne_ hb (boxed_blk hz) ht)
  obtain ⟨v, hv, hrow, _⟩ := h.box
  refine ⟨⟨v, (far (boxed_blk hv) (by decide)).trans hv, hrow.kept (grownBy_setCell' W Bs u) (.inr (Boxed.not_row hz (by decide) hrow).symm), trivial⟩, fun q hq => ?_, h.up, h.rd, (far (boxed_blk h.r2) (by decide)).trans h.r2, (far (boxed_blk h.r3) (by decide)).trans h.r3, ?_, ⟨u, hz.set u⟩, ?_, h.bel.setCell (p := ⟨Bs, 0, none⟩) hs u⟩
  · obtain ⟨h1, h2⟩ := h.part q hq
    exact ⟨h1.keep fun cur hc => far hc (by decide), by simpa [World.setCell] using h2⟩
  · obtain ⟨y, hy⟩ := h.bq
    exact ⟨y, (heap_set_far W Bs _ u hq).trans hy⟩
  · obtain ⟨y, hy⟩ := h.bv
    exact ⟨y, (far (boxed_blk hy) (by decide)).trans hy⟩
/-- One more transaction: read into new memory, appended, stored. -/
theorem RH.step {w W W2 w1 : World} {Bh Bq Bs Bv p2 p3 : Nat} {pre : List Part} {qs : List QT} (h : RH w Bh Bq Bs Bv p2 p3 pre qs W) {x : Part} {t : Txn} {g : Nat} {vt v v' : Value} {tmp : Obj}
    (hx : readTL (partT x) = some t) (hb : Below W.heap.size W W2) (hop : HoldOp w.heap.size W2 t.Ops vt g) (hg1 : W.heap.size ≤ g) (hg2 : g < W2.heap.size) (h2 : p2 ≠ Bh) (hlo : w.heap.size ≤ Bh)
    (hv : Boxed W Bh 23 v) (hrow : W2.ownsRow w.heap.size 41 3 v qs.length (cellsQ qs)) (hown : w1.ownsRow w.heap.size 41 3 v' (qs.length + 1) (cellsQ qs ++ cellQ (t, g, vt))) (hgrow : (W2.alloc tmp).grownBy w1 v.ownBlock) :
    RH w Bh Bq Bs Bv p2 p3 (pre ++ [x]) (qs ++ [(t, g, vt)]) (w1.setCell ⟨Bh, 0, none⟩ v') ∧ (∀ b ty cs, Blk W b ty cs → ty ≠ 41 → b ≠ Bh → (w1.setCell ⟨Bh, 0, none⟩ v').heap[b]? = W.heap[b]?) ∧ KeepsOthers W (w1.setCell ⟨Bh, 0, none⟩ v') := by
  have hv2 : Boxed W2 Bh 23 v := (hb.block _ hv.lt).trans hv
  obtain ⟨k1, k2, k3, k4, k5⟩ := hv2.appended (by decide) hrow (Nat.le_trans h.bel.size hb.size) hlo hown hgrow
  have far2 : ∀ b ty cs, Blk W2 b ty cs → ty ≠ 41 → b ≠ Bh → (w1.setCell ⟨Bh, 0, none⟩ v').heap[b]? = W2.heap[b]? := fun b ty cs hc ht hne => by
    rw [heap_set_far w1 Bh _ v' hne, hgrow.block b (by have := hc.lt; simp; omega) (blk_not_row hc ht hrow), Below.heap_alloc _ _ _ hc.lt]
  have far : ∀ b ty cs, Blk W b ty cs → ty ≠ 41 → b ≠ Bh → (w1.setCell ⟨Bh, 0, none⟩ v').heap[b]? = W.heap[b]? := fun b ty cs hc ht hne => (far2 b ty cs (hc.below hb hc.lt) ht hne).trans (hb.block b hc.lt)
  have ne : ∀ {b ty cs}, Blk W b ty cs → ty ≠ 23 → b ≠ Bh := fun hc ht => Blk.ne_ hc (boxed_blk hv) ht
  have hsz : W2.heap.size ≤ (w1.setCell ⟨Bh, 0, none⟩ v').heap.size := by have := hgrow.size; simp [World.setCell] at this ⊢; omega
  refine ⟨⟨⟨v', k2, by rw [List.length_append, cellsQ_snoc]; exact k3, trivial⟩, fun q hq => ?_, ?_, ?_, (far _ _ _ (boxed_blk h.r2) (by decide) h2).trans h.r2, (far _ _ _ (boxed_blk h.r3) (by decide) (ne (boxed_blk h.r3) (by decide))).trans h.r3, ?_, ?_, ?_, ?_⟩, far, ?_⟩
  · rcases List.mem_append.1 hq with hq | hq
    · obtain ⟨p1, p4⟩ := h.part q hq
      exact ⟨p1.keep fun cur hc => far _ _ _ hc (by decide) (ne hc (by decide)), Nat.lt_of_lt_of_le p4 (Nat.le_trans hb.size hsz)⟩
    · rw [List.mem_singleton] at hq
      subst hq
      exact ⟨hop.keep fun cur hc => far2 _ _ _ hc (by decide) (Blk.ne_ hc (boxed_blk hv2) (by decide)), Nat.lt_of_lt_of_le hg2 hsz⟩
  · rw [List.pairwise_append]
    refine ⟨h.up, List.pairwise_singleton _ _, fun a ha b hb' => ?_⟩
    rw [List.mem_singleton] at hb'
    subst hb'
    exact Nat.lt_of_lt_of_le (h.part a ha).2 hg1
  · rw [List.map_append, List.map_append]
    exact mapMT_snoc h.rd hx
  · obtain ⟨u, hu⟩ := h.bq
    exact ⟨u, (far _ _ _ (boxed_blk hu) (by decide) (ne (boxed_blk hu) (by decide))).trans hu⟩
  · obtain ⟨u, hu⟩ := h.bs
    exact ⟨u, (far _ _ _ (boxed_blk hu) (by decide) (ne (boxed_blk hu) (by decide))).trans hu⟩
  · obtain ⟨u, hu⟩ := h.bv
    exact ⟨u, (far _ _ _ (boxed_blk hu) (by decide) (ne (boxed_blk hu) (by decide))).trans hu⟩
  · exact h.bel.trans ((hb.mono h.bel.size).trans k5)
  · exact KeepsOthers.trans ⟨hb.size, fun k o ho _ => (hb.block k (Array.getElem?_eq_some_iff.1 ho).1).trans ho⟩ k4
/-- Blocks of transactions and operations, made since. -/
def TxB (w W : World) (b : Nat) : Prop := w.heap.size ≤ b ∧ ∃ t cs, Blk W b t cs ∧ (t = 41 ∨ t = 46)
theorem grown_below {W W' : World} (hb : Below W.heap.size W W') : W.grownBy W' none := ⟨hb.os, hb.tape, hb.output, hb.size, fun k hk _ => hb.block k hk⟩
theorem keeps_below {W W' : World} (hb : Below W.heap.size W W') : KeepsOthers W W' := ⟨hb.size, fun k o ho _ => (hb.block k (Array.getElem?_eq_some_iff.1 ho).1).trans ho⟩
theorem HoldT.clip {w : World} {S : Nat → Prop} {xs : List Txn} {A : Option Addr} {n c : Nat} (h : HoldT w S xs (.slice A n c)) : HoldT w S xs (.slice A n n) := by
  obtain ⟨ps, g, e, h1, h2⟩ := h
  exact ⟨ps, g, e, h1.clip, h2⟩
theorem HoldT.nil {w : World} {S : Nat → Prop} : HoldT w S [] (.slice none 0 0) := ⟨[], 0, rfl, Hold.nil _, List.Pairwise.nil⟩
/-- The row as it is handed back. -/
theorem RH.hold {w W : World} {Bh Bq Bs Bv p2 p3 : Nat} {pre : List Part} {qs : List QT} (h : RH w Bh Bq Bs Bv p2 p3 pre qs W) : ∃ A c, Boxed W Bh 23 (.slice A qs.length c) ∧ qs.length ≤ c ∧ c ≤ maxLen ∧ HoldT W (TxB w W) (qs.map (·.1)) (.slice A qs.length c) := by
  obtain ⟨v, hv, hrow, _⟩ := h.box
  have hup : Up (qs.map fun q => (q.1, q.2.1)) := List.pairwise_map.2 h.up
  have hfst : (qs.map fun q => (q.1, q.2.1)).map Prod.fst = qs.map (·.1) := by rw [List.map_map]; rfl
  rcases hrow.2 with ⟨rfl, h0⟩ | ⟨g, cap, cur, rfl, hg, hB, hc1, hc2, hcs, htk⟩
  · have hq : qs = [] := List.length_eq_zero_iff.1 h0
    subst hq
    exact ⟨none, 0, hv, Nat.le_refl _, by simp [maxLen], [], 0, rfl, Hold.nil _, List.Pairwise.nil⟩
  · refine ⟨_, _, hv, hc1, hc2, _, g, hfst, ⟨_, cap, by rw [List.length_map], by rw [List.length_map]; exact hc1, hc2, fun hp => ⟨rfl, ⟨hg, _, _, hB, .inl rfl⟩, ⟨cur, hB, by rw [List.length_map, hcs]; exact Nat.mul_le_mul_right 3 hc1⟩, fun b => TxB w W b ∧ b ≠ g, fun b hb => hb, fun k hk => ?_⟩⟩, hup⟩
    rw [List.length_map] at hk
    obtain ⟨p1, p4⟩ := h.part qs[k] (List.getElem_mem hk)
    refine ⟨cellQ qs[k], ⟨qs[k].2.2, by simp [cellQ], ?_⟩, fun j u hu => ?_⟩
    · simp only [List.getElem_map]
      exact p1.hold fun _ ⟨cur2, hb2⟩ hlo => ⟨⟨hlo, _, _, hb2, .inr rfl⟩, Blk.ne_ hb2 (show Blk W g 41 cur from hB) (by decide)⟩
    · have h1 := cellsQ_get qs k hk j u hu
      have hj : j < 3 := by
        rcases Nat.lt_or_ge j 3 with h1 | h1
        · exact h1
        · rw [List.getElem?_eq_none (by simpa [cellQ] using h1)] at hu; cases hu
      rw [← htk, List.getElem?_take_of_lt (by omega)] at h1
      rw [(show Blk W g 41 cur from hB).cell]
      show cur[0 + k * 3 + j]? = some u
      rw [Nat.zero_add]
      simpa using h1
end Go.Proofs.YtjnghnkilnhacaaGreatDoor
namespace Go.Proofs.YtjnghnkilnhacaaGreatDoor
open Go.RowKit Go.Shelf
set_option linter.unusedVariables false
set_option linter.unusedSimpArgs false
attribute [local go_sem] Oper.semAt_some

/-- What the reading of a history hands back. -/
def rdH (l : Bs) : List Txn := (readHL l).getD []
theorem split_seq (s sep : ByteArray) (n : Int) (w : World) : Calls Tryz.prog 52 #[.string s, .string sep, .int .i64 n] w fun e w' => e = .returned (.func (.func 74) #[] #[.pointer (some ⟨w.heap.size + 1, 0, none⟩), .pointer (some ⟨w.heap.size, 0, none⟩), .pointer (some ⟨w.heap.size + 2, 0, none⟩)]) ∧ w' = ((w.alloc (.cells #[.string s] 9)).alloc (.cells #[.string sep] 9)).alloc (.cells #[.int .i64 n] 3) := by
  go_enter Tryz.func52, Tryz.ntmps52
  go_wp2
  go_ret
  exact ⟨rfl, rfl⟩
theorem split_Seq (s sep : ByteArray) (w : World) : Calls Tryz.prog 27 #[.string s, .string sep] w fun e w' => e = .returned (.func (.func 74) #[] #[.pointer (some ⟨w.heap.size + 1, 0, none⟩), .pointer (some ⟨w.heap.size, 0, none⟩), .pointer (some ⟨w.heap.size + 2, 0, none⟩)]) ∧ w' = ((w.alloc (.cells #[.string s] 9)).alloc (.cells #[.string sep] 9)).alloc (.cells #[.int .i64 0] 3) := by
  go_enter Tryz.func27, Tryz.ntmps27
  go_wp2_with (go_at_call 52; refine (split_seq s sep 0 _).mono ?_; rintro e w' ⟨rfl, rfl⟩)
  go_ret
  exact ⟨rfl, rfl⟩
/-- What the start of the loop holds. -/
theorem rh_start (w : World) (s : ByteArray) (hE : ErrOk w) :
    RH w (w.heap.size + 3) (w.heap.size + 5) (w.heap.size + 4) (w.heap.size + 6) w.heap.size (w.heap.size + 1) [] [] (((((((w.alloc (.cells #[.slice none 0 0] 23)).alloc (.cells #[.bool false] 4)).alloc (.cells #[] 41)).alloc (.cells #[.slice (some ⟨w.heap.size + 2, 0, none⟩) 0 0] 23)).alloc (.cells #[.string s] 9)).alloc (.cells #[.string ⟨#[59, 32]⟩] 9)).alloc (.cells #[.int .i64 0] 3)) ∧ SS (((((((w.alloc (.cells #[.slice none 0 0] 23)).alloc (.cells #[.bool false] 4)).alloc (.cells #[] 41)).alloc (.cells #[.slice (some ⟨w.heap.size + 2, 0, none⟩) 0 0] 23)).alloc (.cells #[.string s] 9)).alloc (.cells #[.string ⟨#[59, 32]⟩] 9)).alloc (.cells #[.int .i64 0] 3)) (w.heap.size + 5) (w.heap.size + 4) (w.heap.size + 6) s ∧ (((((((w.alloc (.cells #[.slice none 0 0] 23)).alloc (.cells #[.bool false] 4)).alloc (.cells #[] 41)).alloc (.cells #[.slice (some ⟨w.heap.size + 2, 0, none⟩) 0 0] 23)).alloc (.cells #[.string s] 9)).alloc (.cells #[.string ⟨#[59, 32]⟩] 9)).alloc (.cells #[.int .i64 0] 3)).heap.size = w.heap.size + 7 := by
  have hb : Below w.heap.size w (((((((w.alloc (.cells #[.slice none 0 0] 23)).alloc (.cells #[.bool false] 4)).alloc (.cells #[] 41)).alloc (.cells #[.slice (some ⟨w.heap.size + 2, 0, none⟩) 0 0] 23)).alloc (.cells #[.string s] 9)).alloc (.cells #[.string ⟨#[59, 32]⟩] 9)).alloc (.cells #[.int .i64 0] 3)) := ((((((((Below.refl _ w).alloc (Nat.le_refl _) _).alloc (by simp) _).alloc (by simp; omega) _).alloc (by simp; omega) _).alloc (by simp; omega) _).alloc (by simp; omega) _).alloc (by simp; omega) _)
  have b0 := Blk.new w 23 #[.slice none 0 0]
  have b1 := Blk.new (w.alloc (.cells #[.slice none 0 0] 23)) 4 #[.bool false]
  have b2 := Blk.new ((w.alloc (.cells #[.slice none 0 0] 23)).alloc (.cells #[.bool false] 4)) 41 #[]
  have b3 := Blk.new (((w.alloc (.cells #[.slice none 0 0] 23)).alloc (.cells #[.bool false] 4)).alloc (.cells #[] 41)) 23 #[.slice (some ⟨w.heap.size + 2, 0, none⟩) 0 0]
  have b4 := Blk.new ((((w.alloc (.cells #[.slice none 0 0] 23)).alloc (.cells #[.bool false] 4)).alloc (.cells #[] 41)).alloc (.cells #[.slice (some ⟨w.heap.size + 2, 0, none⟩) 0 0] 23)) 9 #[.string s]
  have b5 := Blk.new (((((w.alloc (.cells #[.slice none 0 0] 23)).alloc (.cells #[.bool false] 4)).alloc (.cells #[] 41)).alloc (.cells #[.slice (some ⟨w.heap.size + 2, 0, none⟩) 0 0] 23)).alloc (.cells #[.string s] 9)) 9 #[.string ⟨#[59, 32]⟩]
  have b6 := Blk.new ((((((w.alloc (.cells #[.slice none 0 0] 23)).alloc (.cells #[.bool false] 4)).alloc (.cells #[] 41)).alloc (.cells #[.slice (some ⟨w.heap.size + 2, 0, none⟩) 0 0] 23)).alloc (.cells #[.string s] 9)).alloc (.cells #[.string ⟨#[59, 32]⟩] 9)) 3 #[.int .i64 0]
  simp only [World.size_alloc, Nat.add_assoc, Nat.reduceAdd] at b1 b2 b3 b4 b5 b6
  have c0 := ((((((b0.alloc (.cells #[.bool false] 4)).alloc (.cells #[] 41)).alloc (.cells #[.slice (some ⟨w.heap.size + 2, 0, none⟩) 0 0] 23)).alloc (.cells #[.string s] 9)).alloc (.cells #[.string ⟨#[59, 32]⟩] 9)).alloc (.cells #[.int .i64 0] 3))
  have c1 := (((((b1.alloc (.cells #[] 41)).alloc (.cells #[.slice (some ⟨w.heap.size + 2, 0, none⟩) 0 0] 23)).alloc (.cells #[.string s] 9)).alloc (.cells #[.string ⟨#[59, 32]⟩] 9)).alloc (.cells #[.int .i64 0] 3))
  have c2 := ((((b2.alloc (.cells #[.slice (some ⟨w.heap.size + 2, 0, none⟩) 0 0] 23)).alloc (.cells #[.string s] 9)).alloc (.cells #[.string ⟨#[59, 32]⟩] 9)).alloc (.cells #[.int .i64 0] 3))
  have c3 := (((b3.alloc (.cells #[.string s] 9)).alloc (.cells #[.string ⟨#[59, 32]⟩] 9)).alloc (.cells #[.int .i64 0] 3))
  have c4 := ((b4.alloc (.cells #[.string ⟨#[59, 32]⟩] 9)).alloc (.cells #[.int .i64 0] 3))
  have c5 := b5.alloc (.cells #[.int .i64 0] 3)
  obtain ⟨m, hm⟩ := hE.max
  refine ⟨⟨⟨_, c3, ⟨rfl, .inr ⟨w.heap.size + 2, 0, #[], rfl, by omega, c2, Nat.le_refl _, by simp [maxLen], rfl, rfl⟩⟩, trivial⟩, fun q hq => (by cases hq), List.Pairwise.nil, rfl, c0, c1, ⟨_, c5⟩, ⟨_, c4⟩, ⟨_, b6⟩, hb⟩, ⟨c5, c4, b6, m, (hb.cell (cell_lt9 hm)).trans hm⟩, by simp⟩
set_option maxRecDepth 100000 in
set_option maxHeartbeats 8000000 in
theorem implReadHistory (s : ByteArray) (w : World) (hs : s.size ≤ 1048576) (hE : ErrOk w) : Calls Tryz.prog 11 #[.string s] w fun e w' => ∃ v, e = .returned (.tuple #[v, .bool (readHL s.data.toList).isSome]) ∧ HoldT w' (New w w') (rdH s.data.toList) v ∧ Below w.heap.size w w' := by
  obtain ⟨i0, hi, hz0, hz1, hz2⟩ := info_parts infoTxn_
  have HE := hide hE
  have HBl := hide (ByteArray.toList_eq s)
  have hg2 : 0 < w.heap.size := by obtain ⟨m, hm⟩ := hE.max; exact cell_lt9 hm
  refine (callsIn_wide (n := 4)).1 ?_
  refine callsIn_of_wp_marks Tryz.func11 rfl trivial ?_ rfl
  simp only [Tryz.ntmps11, List.size_toArray, List.length_cons, List.length_nil, Nat.reduceAdd, Nat.reduceSub, Array.replicate_succ, Array.replicate_zero, List.push_toArray, List.append_toArray, List.nil_append, List.cons_append]
  by_cases h0 : s.data.toList = []
  · have h1 : (s.toList == ([] : List UInt8)) = true := by rw [beq_iff_eq, HBl.out]; exact h0
    have h2 : s.toList = [] := by rw [HBl.out]; exact h0
    have h3 : (s.toList == (⟨#[]⟩ : ByteArray).toList) = true := by rw [beq_iff_eq, HBl.out, h0, ByteArray.toList_eq]
    have k2 := Blk.new w 23 #[.slice none 0 0]
    gi_wp2
    refine ⟨.tuple #[.slice none 0 0, .bool true], by simp [results, Tryz.f11, go_sem], .slice none 0 0, by rw [h0]; rfl, by unfold rdH; rw [h0]; exact HoldT.nil, ((Below.refl _ w).alloc (Nat.le_refl _) _).alloc (by simp) _⟩
  · have h1 : (s.toList == ([] : List UInt8)) = false := by rw [beq_eq_false_iff_ne, HBl.out]; exact h0
    have h2 : ¬ s.toList = [] := by rw [HBl.out]; exact h0
    have h3 : (s.toList == (⟨#[]⟩ : ByteArray).toList) = false := by rw [beq_eq_false_iff_ne, HBl.out, ByteArray.toList_eq]; exact h0
    have HSt := hide (rh_start w s hE)
    clear hE
    gi_wp2_with (refine ⟨trivial, ?_⟩; gi_at_call 27; refine (callsIn_wide.2 (split_Seq s _ _)).mono ?_; rintro e w' ⟨rfl, rfl⟩)
    simp only [Nat.add_assoc, Nat.reduceAdd]
    obtain ⟨hRH, hSS, hsz⟩ := HSt.out
    clear HSt
    generalize World.alloc _ _ = W0 at hRH hSS hsz ⊢
    have HRH := hide hRH; have HSS := hide hSS
    clear hRH hSS
    have hKlt : ∀ b, SSK (w.heap.size + 5) (w.heap.size + 4) (w.heap.size + 6) b → b < W0.heap.size := fun b hb => by
      rcases hb with rfl | rfl | rfl | rfl <;> omega
    refine range_cell (K := SSK (w.heap.size + 5) (w.heap.size + 4) (w.heap.size + 6)) (Bs := w.heap.size + 4) rfl (by omega) (gf := 74) (lb := #[.pointer (some ⟨w.heap.size + 5, 0, none⟩), .pointer (some ⟨w.heap.size + 4, 0, none⟩), .pointer (some ⟨w.heap.size + 6, 0, none⟩)]) rfl trivial (enters_of Tryz.func74 (by kernel_rfl) rfl)
      (split_stops (4 - 1) (by omega) (w.heap.size + 5) (w.heap.size + 4) (w.heap.size + 6) s hs W0 HSS.out (by omega) (by omega) (by omega)) hKlt (by omega) (fun _ => rfl)
      (fun pre W => ∃ qs, RH w (w.heap.size + 3) (w.heap.size + 5) (w.heap.size + 4) (w.heap.size + 6) w.heap.size (w.heap.size + 1) pre qs W)
      (fun pre W => (∃ x ∈ pre, readTL (partT x) = none) ∧ Boxed W w.heap.size 23 (.slice none 0 0) ∧ Boxed W (w.heap.size + 1) 4 (.bool false) ∧ Below w.heap.size w W)
      (rh_own (by omega))
      (fun pre X Y row ⟨h1, h2, h3, h4⟩ hg hr => ⟨h1, boxed_grown h2 hg (fun r e => (hr r e).2), boxed_grown h3 hg (fun r e => (hr r e).2), h4.grown hg h4.size (fun j e => by have := (hr j e).1; omega)⟩)
      (fun pre W u ⟨qs, h⟩ => ⟨qs, h.setBs (by omega) (by omega) u⟩) ⟨[], HRH.out⟩
      (fun x => { tmps := #[.string s, undef, .pointer (some ⟨w.heap.size, 0, none⟩), .pointer (some ⟨w.heap.size + 1, 0, none⟩), .pointer (some ⟨w.heap.size + 3, 0, none⟩), .string x.1, undef, undef, .string s, .bool false, .slice (some ⟨w.heap.size + 2, 0, none⟩) 0 0, .string s, .func (.func 74) #[] #[.pointer (some ⟨w.heap.size + 5, 0, none⟩), .pointer (some ⟨w.heap.size + 4, 0, none⟩), .pointer (some ⟨w.heap.size + 6, 0, none⟩)], .string x.1, undef, undef, undef, undef, undef, undef, undef, undef, undef, undef, undef, undef, undef, undef, undef, undef], defers := [] }) ?assign ?body ?done ?stop
    case assign =>
      intro l x W K hK
      gi_wp2
      exact hK
    case body =>
      rintro l pre x W ⟨qs, hI⟩ hlen
      have HI := hide hI
      have hE' := HE.out.below hI.bel
      have hx2 := x.2
      have HRd := implReadTxn x.1 W (by omega) hE'
      clear hI hE'
      have hfR : Fence.wide.fn 28 := trivial
      cases hr : readTL (partT x) with
      | none =>
        have e1 : rdT x.1.data.toList = ⟨0, [], false⟩ := by unfold rdT; rw [show readTL x.1.data.toList = none from hr]; rfl
        have e2 : (readTL x.1.data.toList).isSome = false := by rw [show readTL x.1.data.toList = none from hr]; rfl
        rw [e1, e2] at HRd
        have HRd := hide HRd
        have Hbad := hide hr
        clear e1 e2 hr
        gi_wp2_with (gi_at_call 28; refine (CallsIn.inRound l (callsIn_wide.2 HRd.out)).mono ?_; rintro e w1 ⟨v, g, rfl, hH, hg, hb⟩; obtain ⟨A1, c1, rfl, _, _, _⟩ := hH.sl; have hb2 := hb.alloc hb.size (.cells #[.int .i64 0, .slice A1 0 c1, .bool false] 41); have k2 : Boxed (w1.alloc (.cells #[.int .i64 0, .slice A1 0 c1, .bool false] 41)) w.heap.size 23 (.slice none 0 0) := (hb2.block _ HI.out.r2.lt).trans HI.out.r2; have k3 : Boxed (w1.alloc (.cells #[.int .i64 0, .slice A1 0 c1, .bool false] 41)) (w.heap.size + 1) 4 (.bool false) := (hb2.block _ HI.out.r3.lt).trans HI.out.r3; have HB2 := hide hb2; have c2 := k2.cell; have f2 := k2.frozen; have c3 := k3.cell; have f3 := k3.frozen; have K2 := hide k2; have K3 := hide k3; clear hH hg hb hb2 k2 k3)
        exact ⟨(KeepsOthers.trans (keeps_below HB2.out) ((KeepsOthers.setCell _ _ _).trans (KeepsOthers.setCell _ _ _))).from _, ⟨x, by simp, Hbad.out⟩, (heap_set_far _ (w.heap.size + 1) _ _ (by omega)).trans (K2.out.set _), Boxed.set (v := .bool false) _ ((heap_set_far _ w.heap.size _ _ (by omega)).trans K3.out), (((HI.out.bel.trans (HB2.out.mono HI.out.bel.size)).setCell (p := ⟨w.heap.size, 0, none⟩) (Nat.le_refl _) _).setCell (p := ⟨w.heap.size + 1, 0, none⟩) (by simp) _)⟩
      | some t =>
        have e1 : rdT x.1.data.toList = t := by unfold rdT; rw [show readTL x.1.data.toList = some t from hr]; rfl
        have e2 : (readTL x.1.data.toList).isSome = true := by rw [show readTL x.1.data.toList = some t from hr]; rfl
        rw [e1, e2] at HRd
        have HRd := hide HRd
        have Hgood := hide hr
        obtain ⟨v0, hv0, hrow0, _⟩ := HI.out.box
        have HV0 := hide hv0; have HRow0 := hide hrow0
        have hql : qs.length ≤ 1048580 := by
          have h5 := mapMT_len HI.out.rd
          rw [List.length_map, List.length_map] at h5
          omega
        clear e1 e2 hr hv0 hrow0
        gi_wp2_with (first | (gi_at_call 28; refine (CallsIn.inRound l (callsIn_wide.2 HRd.out)).mono ?_; rintro e w1 ⟨v, g, rfl, hH, hg, hb⟩; have HH := hide hH; obtain ⟨A1, c1, rfl, _, _, _⟩ := hH.sl; have HG := hide hg; have hb2 := hb.alloc hb.size (.cells #[.int .i64 t.Session, .slice A1 t.Ops.length c1, .bool t.Done] 41); have HB1 := hide hb; have HB2 := hide hb2; have HV2 := hide (show Boxed (w1.alloc (.cells #[.int .i64 t.Session, .slice A1 t.Ops.length c1, .bool t.Done] 41)) (w.heap.size + 3) 23 v0 from (hb2.block _ HV0.out.lt).trans HV0.out); have HRow2 := hide (HRow0.out.kept (grown_below hb2) (by cases v0.ownBlock <;> simp)); have c4 := HV2.out.cell; have t0 := (Blk.new w1 41 #[.int .i64 t.Session, .slice A1 t.Ops.length c1, .bool t.Done]).cell 0; have t1 := (Blk.new w1 41 #[.int .i64 t.Session, .slice A1 t.Ops.length c1, .bool t.Done]).cell 1; have t2 := (Blk.new w1 41 #[.int .i64 t.Session, .slice A1 t.Ops.length c1, .bool t.Done]).cell 2; simp only [List.getElem?_toArray, List.getElem?_cons_zero, List.getElem?_cons_succ] at t0 t1 t2; clear hH hg hb hb2) | (gi_at_builtin; refine wpListIn_append_own _ rfl _ _ 23 rfl w.heap.size 41 i0 (.agg #[.int .i64 0, .slice none 0 0, .bool false]) 3 40 Tryz.underlying23 hi hz0 hz1 hz2 rfl (by decide) _ _ _ rfl (HRow2.out.alloc _) ⟨(w1.alloc (.cells #[.int .i64 t.Session, .slice A1 t.Ops.length c1, .bool t.Done] 41)).heap.size, 0, none⟩ 1 1 [.int .i64 t.Session, .slice A1 t.Ops.length c1, .bool t.Done] (by rw [World.size_alloc]; rfl) rfl (cell_three_new _ _ _ _ _) (by simp [Value.oneCell']) (by simp only [maxLen]; omega) (by omega) (by have := HI.out.bel.size; have := HB2.out.size; simp at this ⊢; omega) ?_; intro v' w4 hown' hgrow _; obtain ⟨g', cap', rfl⟩ := ownsRow_succ hown'; have HOw := hide hown'; have HGr := hide hgrow; have hv4 := (HV2.out.alloc _).kept hgrow (HV2.out.not_row (by decide) HRow2.out); have c5 := hv4.cell; have f5 := hv4.frozen; clear hown' hgrow hv4))
        have hop : HoldOp w.heap.size (w1.alloc (.cells #[.int .i64 t.Session, .slice A1 t.Ops.length c1, .bool t.Done] 41)) t.Ops (.slice A1 t.Ops.length c1) g := (HoldOp.of HH.out HI.out.bel.size).keep fun cur hc => Below.heap_alloc _ _ _ hc.lt
        obtain ⟨r1, r2, r3⟩ := RH.step HI.out (x := x) (t := t) (g := g) Hgood.out HB2.out hop HG.out.1 (Nat.lt_of_lt_of_le HG.out.2 (by simp)) (by omega) (by omega) HV0.out HRow2.out HOw.out HGr.out
        refine ⟨r3.from _, fun b hb => ?_, _, r1⟩
        rcases hb with rfl | rfl | rfl | rfl
        · obtain ⟨u, hu⟩ := HI.out.bq; exact r2 _ _ _ (boxed_blk hu) (by decide) (by omega)
        · obtain ⟨u, hu⟩ := HI.out.bs; exact r2 _ _ _ (boxed_blk hu) (by decide) (by omega)
        · obtain ⟨u, hu⟩ := HI.out.bv; exact r2 _ _ _ (boxed_blk hu) (by decide) (by omega)
        · exact (r1.bel.block _ hg2).trans (HI.out.bel.block _ hg2).symm
    case done =>
      rintro D xs W hD hS ⟨qs, hI⟩ hK
      have hall : (partsL s.data.toList).mapM readTL = some (qs.map (·.1)) := by rw [← hS]; exact hI.rd
      have hH := readHL_all h0 hall
      obtain ⟨A, c, hbx, hc1, hc2, hHT⟩ := hI.hold
      have hql : qs.length ≤ maxLen := Nat.le_trans hc1 hc2
      have hl : (qs.map (·.1)).length = qs.length := List.length_map _
      have HV := implHistoryValid (qs.map (·.1)) A c W (by rw [hl]; exact hql) (by
        have h5 := hHT.sl.row.mono (S' := Old W) (fun b hb => by obtain ⟨_, t, cs, h6, _⟩ := hb; exact h6.lt) (fun _ _ => rfl)
        exact h5)
      rw [hl] at HV
      have HHT := hide hHT; have HI := hide hI; have HD := hide hK
      have hDl := (Array.getElem?_eq_some_iff.1 hK).1
      generalize qs.map (·.1) = txs at HV hH HHT hall
      have hfV : Fence.wide.fn 20 := trivial
      have hfC : Fence.wide.fn 29 := trivial
      have c4 := hbx.cell
      cases hv : histV txs with
      | false =>
        rw [hv] at HV hH
        have HV := hide HV; have HH := hide hH
        clear hH hHT hI hK hS hv
        gi_wp2_with (gi_at_call 20; refine (callsIn_wide.2 HV.out).mono ?_; rintro e w1 ⟨rfl, hb⟩; have k2 : Boxed w1 w.heap.size 23 (.slice none 0 0) := (hb.block _ HI.out.r2.lt).trans HI.out.r2; have k3 : Boxed w1 (w.heap.size + 1) 4 (.bool false) := (hb.block _ HI.out.r3.lt).trans HI.out.r3; have HB1 := hide hb; have c2 := k2.cell; have f2 := k2.frozen; have c3 := k3.cell; have f3 := k3.frozen; have K2 := hide k2; have K3 := hide k3; clear hb k2 k3)
        have HDl := hide (show D < w1.heap.size from Nat.lt_of_lt_of_le hDl HB1.out.size)
        have hw2 : w.heap.size + 1 < D := by omega
        have hK' : ((w1.setCell ⟨w.heap.size, 0, none⟩ (.slice none 0 0)).setCell ⟨w.heap.size + 1, 0, none⟩ (.bool false)).heap[D]? = some (.deferred (some [])) := by
          rw [heap_set_far _ _ _ _ (by omega), heap_set_far _ _ _ _ (by omega)]
          exact (HB1.out.block _ hDl).trans HD.out
        refine ⟨by simp, .inl ⟨_, _, rfl, run_takeDeferred hK', ?_⟩⟩
        have d2 : Boxed ((w1.setCell ⟨w.heap.size, 0, none⟩ (.slice none 0 0)).setCell ⟨w.heap.size + 1, 0, none⟩ (.bool false)) w.heap.size 23 (.slice none 0 0) := (heap_set_far _ _ _ _ (by omega)).trans (K2.out.set _)
        have d3 : Boxed ((w1.setCell ⟨w.heap.size, 0, none⟩ (.slice none 0 0)).setCell ⟨w.heap.size + 1, 0, none⟩ (.bool false)) (w.heap.size + 1) 4 (.bool false) := Boxed.set (v := .bool false) _ ((heap_set_far _ _ _ _ (by omega)).trans K3.out)
        have hBl : Below w.heap.size w ((w1.setCell ⟨w.heap.size, 0, none⟩ (.slice none 0 0)).setCell ⟨w.heap.size + 1, 0, none⟩ (.bool false)) := (((HI.out.bel.trans (HB1.out.mono HI.out.bel.size)).setCell (p := ⟨w.heap.size, 0, none⟩) (Nat.le_refl _) _).setCell (p := ⟨w.heap.size + 1, 0, none⟩) (by simp) _)
        generalize World.setCell _ _ _ = W9 at hK' d2 d3 hBl ⊢
        have g2 := cell_kept d2.cell (grownBy_putObj' _ D (.deferred none)) (fun r e => by cases e; exact ⟨_, hK', rfl⟩)
        have g3 := cell_kept d3.cell (grownBy_putObj' _ D (.deferred none)) (fun r e => by cases e; exact ⟨_, hK', rfl⟩)
        have hN : readHL s.data.toList = none := by rw [HH.out]; rfl
        exact ⟨.tuple #[.slice none 0 0, .bool false], by simp [results, Tryz.f11, go_sem, g2, g3], .slice none 0 0, by rw [hN]; rfl, by unfold rdH; rw [hN]; exact HoldT.nil, hBl.trans (belowK_b (w := w) (Nat.le_refl _) _ D _ _ (by omega) hK' rfl rfl)⟩
      | true =>
        rw [hv] at HV hH
        have HV := hide HV; have HH := hide hH
        have HCl := hide (fun (W : World) => clip_Txn qs.length A c W hc1 hc2)
        clear hH hHT hI hK hS hv
        gi_wp2_with (first | (gi_at_call 20; refine (callsIn_wide.2 HV.out).mono ?_; rintro e w1 ⟨rfl, hb⟩; have k2 : Boxed w1 w.heap.size 23 (.slice none 0 0) := (hb.block _ HI.out.r2.lt).trans HI.out.r2; have k3 : Boxed w1 (w.heap.size + 1) 4 (.bool false) := (hb.block _ HI.out.r3.lt).trans HI.out.r3; have k4 : Boxed w1 (w.heap.size + 3) 23 (.slice A qs.length c) := (hb.block _ hbx.lt).trans hbx; have HB1 := hide hb; have c2 := k2.cell; have f2 := k2.frozen; have c3 := k3.cell; have f3 := k3.frozen; have c5 := k4.cell; have K2 := hide k2; have K3 := hide k3; clear hb k2 k3 k4) | (gi_at_call 29; refine (callsIn_wide.2 (HCl.out _)).mono ?_; rintro e w2 ⟨rfl, rfl⟩))
        have hw2 : w.heap.size + 1 < D := by omega
        have hK' : ((w1.setCell ⟨w.heap.size, 0, none⟩ (.slice A qs.length qs.length)).setCell ⟨w.heap.size + 1, 0, none⟩ (.bool true)).heap[D]? = some (.deferred (some [])) := by
          rw [heap_set_far _ _ _ _ (by omega), heap_set_far _ _ _ _ (by omega)]
          exact (HB1.out.block _ hDl).trans HD.out
        refine ⟨by simp, .inl ⟨_, _, rfl, run_takeDeferred hK', ?_⟩⟩
        have d2 : Boxed ((w1.setCell ⟨w.heap.size, 0, none⟩ (.slice A qs.length qs.length)).setCell ⟨w.heap.size + 1, 0, none⟩ (.bool true)) w.heap.size 23 (.slice A qs.length qs.length) := (heap_set_far _ _ _ _ (by omega)).trans (K2.out.set _)
        have d3 : Boxed ((w1.setCell ⟨w.heap.size, 0, none⟩ (.slice A qs.length qs.length)).setCell ⟨w.heap.size + 1, 0, none⟩ (.bool true)) (w.heap.size + 1) 4 (.bool true) := Boxed.set (v := .bool false) _ ((heap_set_far _ _ _ _ (by omega)).trans K3.out)
        have hBl : Below w.heap.size w ((w1.setCell ⟨w.heap.size, 0, none⟩ (.slice A qs.length qs.length)).setCell ⟨w.heap.size + 1, 0, none⟩ (.bool true)) := (((HI.out.bel.trans (HB1.out.mono HI.out.bel.size)).setCell (p := ⟨w.heap.size, 0, none⟩) (Nat.le_refl _) _).setCell (p := ⟨w.heap.size + 1, 0, none⟩) (by simp) _)
        have hsm : ∀ b, TxB w W b → ((w1.setCell ⟨w.heap.size, 0, none⟩ (.slice A qs.length qs.length)).setCell ⟨w.heap.size + 1, 0, none⟩ (.bool true)).heap[b]? = W.heap[b]? ∧ b ≠ D := fun b hb => by
          obtain ⟨_, ty, cs, hbk, ht⟩ := hb
          have n2 : b ≠ w.heap.size := by rcases ht with rfl | rfl <;> exact Blk.ne_ hbk (boxed_blk HI.out.r2) (by decide)
          have n3 : b ≠ w.heap.size + 1 := by rcases ht with rfl | rfl <;> exact Blk.ne_ hbk (boxed_blk HI.out.r3) (by decide)
          refine ⟨?_, fun e => ?_⟩
          · rw [heap_set_far _ _ _ _ n3, heap_set_far _ _ _ _ n2]
            exact HB1.out.block _ hbk.lt
          · subst e
            have h5 := HD.out
            rw [show W.heap[b]? = _ from hbk] at h5
            cases h5
        generalize World.setCell _ _ _ = W9 at hK' d2 d3 hBl hsm ⊢
        have g2 := cell_kept d2.cell (grownBy_putObj' _ D (.deferred none)) (fun r e => by cases e; exact ⟨_, hK', rfl⟩)
        have g3 := cell_kept d3.cell (grownBy_putObj' _ D (.deferred none)) (fun r e => by cases e; exact ⟨_, hK', rfl⟩)
        have hN : readHL s.data.toList = some txs := by rw [HH.out]; rfl
        refine ⟨.tuple #[.slice A qs.length qs.length, .bool true], by simp [results, Tryz.f11, go_sem, g2, g3], .slice A qs.length qs.length, by rw [hN]; rfl, ?_, hBl.trans (belowK_b (w := w) (Nat.le_refl _) _ D _ _ (by omega) hK' rfl rfl)⟩
        unfold rdH
        rw [hN]
        refine HHT.out.clip.mono (fun b hb => ⟨hb.1, ?_⟩) (fun b hb => ?_)
        · obtain ⟨_, ty, cs, hbk, _⟩ := hb
          have h5 := hbk.lt
          have h6 : W9.heap[b]? = W.heap[b]? := (hsm b ⟨by assumption, ty, cs, hbk, by assumption⟩).1
          rw [World.putObj_size]
          exact (Array.getElem?_eq_some_iff.1 (h6.trans hbk)).1
        · obtain ⟨h5, h6⟩ := hsm b hb
          exact (World.putObj_heap_other h6).trans h5
    case stop =>
      rintro D pre W hD hpre ⟨⟨x, hx, hbad⟩, h2, h3, hB⟩ hK
      have hH := readHL_bad h0 (hpre.subset (List.mem_map_of_mem hx)) hbad
      gi_wp2
      refine ⟨by simp, .inl ⟨_, _, rfl, run_takeDeferred hK, ?_⟩⟩
      have g2 := cell_kept h2.cell (grownBy_putObj' _ D (.deferred none)) (fun r e => by cases e; exact ⟨_, hK, rfl⟩)
      have g3 := cell_kept h3.cell (grownBy_putObj' _ D (.deferred none)) (fun r e => by cases e; exact ⟨_, hK, rfl⟩)
      exact ⟨.tuple #[.slice none 0 0, .bool false], by simp [results, Tryz.f11, go_sem, g2, g3], .slice none 0 0, by rw [hH]; rfl, by unfold rdH; rw [hH]; exact HoldT.nil, hB.trans (belowK_b (w := w) (Nat.le_refl _) W D _ _ (by omega) hK rfl rfl)⟩
end Go.Proofs.YtjnghnkilnhacaaGreatDoor
