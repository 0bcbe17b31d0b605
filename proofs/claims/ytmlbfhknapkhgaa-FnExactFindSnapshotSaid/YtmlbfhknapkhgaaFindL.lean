/- What searches share: one more number put behind a list; what is found. -/
import Derived.Test.YtmlbfhknapkhgaaHold
import Derived.Laws.AppendOwn
import Derived.ArgAppend
import Derived.Deep.RegionLaw
namespace Go.Proofs.Ytmlbfhknapkhgaa
open Go.RowKit
set_option linter.unusedVariables false
set_option linter.unusedSimpArgs false

/-- A call of a function of the program, as one operation. -/
theorem wp_fn {P : Program} {o : Oper} {a : Act} {w : World} {K : Act → World → Prop} {Q : Exit → Act → World → Prop} (f : FuncId) (args : Array Value) (hrun : (execOp a.eval o).run P w = .ok (.enter f args) w) {R : Ending → World → Prop}
    (hc : Calls P f args w R) (h : ∀ e w', R e w' → ∃ v, e = .returned v ∧ K (a.put o.dst v) w') : o.wp P a w K Q := by
  unfold Oper.wp
  rw [hrun, Oper.upon_enter]
  refine hc.mono fun e w'' hh => ?_
  obtain ⟨v, rfl, hk⟩ := h e w'' hh
  exact hk
theorem Own.emptyAt {α : Type} {T : Ty α} {e : TypeId} {w : World} {S : Nat → Prop} {p : Nat} (hB : Blk w p e #[]) (hp : S p) : Own T e w S ([] : List α) (.slice (some ⟨p, 0, none⟩) 0 0) :=
  .inr ⟨p, 0, #[], fun _ => False, rfl, hp, hB, by simp, by simp [maxLen], by simp, fun _ h => h.elim, fun k hk => absurd hk (by simp)⟩
theorem rowOne {e : TypeId} {w : World} {q : Nat} {x : Int} (hB : Blk w q e #[.int .i64 x]) : RowAny tInt w (fun _ => False) (some ⟨q, 0, none⟩) [x] := fun _ =>
  ⟨q, 0, rfl, fun k hk => by
    obtain rfl : k = 0 := by simpa using hk
    refine ⟨[.int .i64 x], rfl, fun j u hu => ?_⟩
    obtain ⟨hj, rfl⟩ := List.getElem?_eq_some_iff.1 hu
    obtain rfl : j = 0 := by simpa using hj
    simpa using hB.cell 0⟩
/-- The list with one more number, in new memory. -/
def XOne (e : TypeId) (w4 w : World) (ys : List Int) (v : Value) : Prop := Own tInt e w (fun b => w4.heap.size ≤ b ∧ Old w b) ys v ∧ Below w4.heap.size w4 w
theorem one_way {e : TypeId} {w4 W w8 w9 : World} {P : Nat → Prop} {pre : List Int} {x : Int} {v : Value} (hO : Own tInt e w9 (fun b => (w4.heap.size ≤ b ∧ P b) ∧ Old w9 b) ([] ++ pre ++ [x]) v) (hW : Below w4.heap.size w4 W)
    (h8 : Only (fun b => w4.heap.size ≤ b ∧ P b) W w8) (h9 : Only (fun b => w4.heap.size ≤ b ∧ P b) w8 w9) : XOne e w4 w9 (pre ++ [x]) v :=
  ⟨hO.mono (fun b h => ⟨h.1.1, h.2⟩) (fun _ _ => rfl), below_only hW (h8.trans h9) hW.size (fun b h => h.1)⟩
theorem find_take_some {α β : Type} (p : α → Option β) (l : List α) (k : Nat) (hk : k < l.length) (h0 : (l.take k).findSome? p = none) : (p l[k] = none → (l.take (k + 1)).findSome? p = none) ∧ (∀ y, p l[k] = some y → l.findSome? p = some y) := by
  constructor
  · intro hp
    rw [List.take_succ_eq_append_getElem hk, List.findSome?_append, h0]
    simp [hp]
  · intro y hp
    have h1 : (l.take k ++ l.drop k).findSome? p = some y := by
      rw [List.findSome?_append, h0, Option.none_or, List.drop_eq_getElem_cons hk, List.findSome?_cons, hp]
    rwa [List.take_append_drop] at h1
/-- What is found, in memory from block lo on. -/
def FindPost (r : Option (List Int)) (lo : Nat) (w : World) (e : Ending) (w' : World) : Prop :=
  ∃ v, e = .returned (.tuple #[v, .bool r.isSome]) ∧ Sl tInt w' (In lo w'.heap.size) (r.getD []) v ∧ Below w.heap.size w w'
theorem Sl.none_ {w : World} {S : Nat → Prop} : Sl tInt w S [] (.slice none 0 0) := ⟨none, 0, rfl, Nat.le_refl _, by simp [maxLen], Row.nil⟩
theorem Sl.zero_ {w : World} {S : Nat → Prop} {A : Option Addr} : Sl tInt w S [] (.slice A 0 0) := ⟨A, 0, rfl, Nat.le_refl _, by simp [maxLen], Row.nil⟩
end Go.Proofs.Ytmlbfhknapkhgaa
