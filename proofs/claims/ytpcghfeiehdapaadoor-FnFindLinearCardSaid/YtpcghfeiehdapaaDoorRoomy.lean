/- A slice that has room for what is put into it; the slice of an order that is being searched. -/
import Derived.Test.YtpcghfeiehdapaaDoorHold
import Derived.Laws.AppendOwn
import Derived.ArgAppend
namespace Go.Proofs.YtpcghfeiehdapaaDoor
open Go.RowKit
set_option linter.unusedVariables false
set_option linter.unusedSimpArgs false

theorem at_TxnG {xs : List Txn} {A : Option Addr} {w : World} {S : Nat → Prop} {k : Nat} (hR : Row tTxn w S A xs) (hk : k < xs.length) :
    ∃ b off A2 c2, A = some ⟨b, off, none⟩ ∧ S b ∧ w.cell? ⟨b, off + k * 3, none⟩ = some (.int .i64 xs[k].Session) ∧ w.cell? ⟨b, off + k * 3 + 1, none⟩ = some (.slice A2 xs[k].Ops.length c2) ∧ w.cell? ⟨b, off + k * 3 + 2, none⟩ = some (.bool xs[k].Done) ∧ xs[k].Ops.length ≤ c2 ∧ c2 ≤ maxLen ∧ Row tOp w S A2 xs[k].Ops := by
  obtain ⟨b, off, rfl, hbS, hc⟩ := hR (by omega)
  obtain ⟨cs, hr, hcs⟩ := hc k hk
  obtain ⟨v, rfl, A2, c2, rfl, h1, h2, h3⟩ := hr
  exact ⟨b, off, A2, c2, rfl, hbS, by simpa [tTxn] using hcs 0 _ rfl, by simpa [tTxn] using hcs 1 _ rfl, by simpa [tTxn] using hcs 2 _ rfl, h1, h2, h3⟩
section
variable {P : Program}
/-- append of one element of one cell onto a slice with room. -/
theorem wpList_room {w : World} {ops : Array Oper} {rest : List Oper} {o : Oper} {a : Act} {Q : Exit → Act → World → Prop} (hgd : Region.wanted o (yielded ops a.tmps) = true) (s x : Operand) (t : TypeId)
    (ho : o.op = .call { callee := .builtin .append, args := #[s, x], argTypes := #[t, t] })
    (e : TypeId) (i : TypeInfo) (ht : P.underlying t = some (.slice e)) (hi : P.info? e = some i) (hsize : i.size = 1)
    (g k cap : Nat) (cur : Array Value) (u : Value) (hB : Blk w g e cur) (hk : k < cap) (hs1 : k < cur.size) (h1 : u.oneCell' = true)
    (hs : a.eval s = .slice (some ⟨g, 0, none⟩) k cap) (c : Nat) (hx : a.eval x = .slice (some ⟨w.heap.size, 0, none⟩) 1 c)
    (h : wpList P ops Q rest (a.put o.dst (.slice (some ⟨g, 0, none⟩) (k + 1) cap)) ((w.alloc (.cells #[u] e)).setCell ⟨g, k, none⟩ u)) : wpList P ops Q (o :: rest) a (w.alloc (.cells #[u] e)) := by
  have hB2 := hB.alloc (.cells #[u] e)
  have hN := Blk.new w e #[u]
  have hrun := run_append_room_cells (P := P) (w.alloc (.cells #[u] e)) t o.type e i ht hi g 0 k cap ⟨w.heap.size, 0, none⟩ 1 c [u] (by rw [hsize]; rfl)
    (fun j v hj => by
      obtain ⟨hj0, rfl⟩ := List.getElem?_eq_some_iff.1 hj
      have : j = 0 := by simpa using hj0
      subst this
      rw [Go.WideShapes.add_plain]
      exact hN.cell 0)
    (fun v hv => by simp at hv; subst hv; exact h1) (by omega)
    (fun j hj => by
      have : j = 0 := by simpa using hj
      subst this
      rw [hsize, hB2.cell, Array.getElem?_eq_getElem (by omega)]; rfl)
    (fun j hj => hB2.frozen _)
  refine BigFrame.wpList_want hgd fun K hK => ?_
  unfold Oper.wp execOp
  simp only [ho, resolve, invoke, builtin, Sem.run_bind, Sem.run_pure, Result.andThen_ok, List.map_toArray, List.map_cons, List.map_nil, hs, hx, hrun]
  refine hK _ _ ?_
  have e1 : (w.alloc (.cells #[u] e)).setCells g (0 + k * i.size) [u] = (w.alloc (.cells #[u] e)).setCell ⟨g, k, none⟩ u := by
    rw [hsize]; simp [World.setCells]
  rw [e1]
  exact h
end
/-- The slice of the order: what stands in it, in block g, behind variable bo. -/
structure Ord (bo g cap : Nat) (pre : List Int) (W : World) : Prop where
  var : Blk W bo 24 #[.slice (some ⟨g, 0, none⟩) pre.length cap]
  row : ∃ cur, Blk W g 3 cur ∧ cur.size = cap ∧ ∀ j (hj : j < pre.length), cur[j]? = some (.int .i64 pre[j])
theorem Ord.glt {bo g cap : Nat} {pre : List Int} {W : World} (h : Ord bo g cap pre W) : g < W.heap.size := by obtain ⟨cur, hb, _⟩ := h.row; exact hb.lt
theorem Ord.keep {bo g cap : Nat} {pre : List Int} {W W' : World} (h : Ord bo g cap pre W) (h1 : W'.heap[bo]? = W.heap[bo]?) (h2 : W'.heap[g]? = W.heap[g]?) : Ord bo g cap pre W' := by
  obtain ⟨hv, cur, hb, hr⟩ := h
  exact ⟨hv.of h1, cur, hb.of h2, hr⟩
/-- The blocks of the order. -/
def Ko (bo g b : Nat) : Prop := b = bo ∨ b = g
end Go.Proofs.YtpcghfeiehdapaaDoor
