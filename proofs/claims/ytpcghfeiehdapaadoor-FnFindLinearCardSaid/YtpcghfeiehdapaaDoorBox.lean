/- A variable of the call's own beside a slice that grows and a reader that goes on. -/
import Derived.Test.YtpcghfeiehdapaaDoorTurns
namespace Go.Proofs.YtpcghfeiehdapaaDoor
open Go.RowKit
set_option linter.unusedVariables false

structure Box {α : Type} (T : Ty α) (e : TypeId) (w W : World) (R P : Nat) (K : Nat → Prop) (xs : List α) (v : Value) (B : Nat) (t : TypeId) (cs : Array Value) : Prop where
  rd : Rd W R P
  gr : Gr w W R
  own : Own T e W (fun b => K b ∧ b < B) xs v
  blk : Blk W B t cs
  ge : w.heap.size ≤ B
  rlt : R < w.heap.size
section
variable {α : Type} {T : Ty α} {e : TypeId} {w W W' : World} {R P : Nat} {K : Nat → Prop} {xs : List α} {v : Value} {B : Nat} {t : TypeId} {cs : Array Value}
theorem Box.make (hr : Rd W R P) (hg : Gr w W R) (ho : Own T e W (fun b => K b ∧ Old W b) xs v) (hR : R < w.heap.size) : Box T e w (W.alloc (.cells cs t)) R P K xs v W.heap.size t cs :=
  ⟨hr.alloc _, gr_alloc hg _, ho.mono (fun _ h => h) (fun b hb => Below.heap_alloc _ _ _ hb.2), Blk.new _ _ _, hg.size, hR⟩
theorem Box.pick (h : Box T e w W R P K xs v B t cs) {Q : Nat} (hr : Rd W' R Q) (hg : Gr W W' R) (hK : ∀ b, K b → w.heap.size ≤ b) : Box T e w W' R Q K xs v B t cs :=
  ⟨hr, gr_trans h.gr hg, h.own.mono (fun _ h => h) (fun b hb => hg.block b (Nat.lt_trans hb.2 h.blk.lt) (fun e => by injection e with e; have := hK b hb.1; have := h.rlt; omega)),
    h.blk.of (hg.block B h.blk.lt (fun e => by injection e with e; have := h.ge; have := h.rlt; omega)), h.ge, h.rlt⟩
theorem Box.alloc (h : Box T e w W R P K xs v B t cs) (o : Obj) : Box T e w (W.alloc o) R P K xs v B t cs :=
  ⟨h.rd.alloc o, gr_alloc h.gr o, h.own.mono (fun _ h => h) (fun b hb => Below.heap_alloc _ _ _ (Nat.lt_trans hb.2 h.blk.lt)), h.blk.alloc o, h.ge, h.rlt⟩
theorem Box.set (h : Box T e w W R P K xs v B t cs) (i : Nat) (u : Value) : Box T e w (W.setCell ⟨B, i, none⟩ u) R P K xs v B t (cs.setIfInBounds i u) :=
  ⟨h.rd.far (p := ⟨B, i, none⟩) (Nat.lt_of_lt_of_le h.rlt h.ge) u, gr_setCell h.gr (p := ⟨B, i, none⟩) (.inr h.ge) u,
    h.own.mono (fun _ h => h) (fun b hb => Below.heap_setCell _ _ _ b (Nat.ne_of_lt hb.2)), h.blk.set_ i u, h.ge, h.rlt⟩
theorem Box.open_ (h : Box T e w W R P K xs v B t cs) : Own T e W (fun b => K b ∧ Old W b) xs v := h.own.mono (fun b hb => ⟨hb.1, Nat.lt_trans hb.2 h.blk.lt⟩) (fun _ _ => rfl)
theorem Box.up (h : Box T e w W R P K xs v B t cs) {Q : Nat} (hq : P ≤ Q) : Box T e w W R Q K xs v B t cs := ⟨h.rd.up hq, h.gr, h.own, h.blk, h.ge, h.rlt⟩
theorem Row.inGr {lo hi : Nat} {A : Option Addr} (h : Row T W (In lo hi) A xs) (g : Gr W W' R) (hR : R < lo) (hh : hi ≤ W.heap.size) : Row T W' (In lo hi) A xs :=
  h.mono (fun _ h => h) fun b hb => g.block b (Nat.lt_of_lt_of_le hb.2 hh) (fun e => by injection e with e; have := hb.1; omega)
theorem Row.inAlloc {lo hi : Nat} {A : Option Addr} (h : Row T W (In lo hi) A xs) (hh : hi ≤ W.heap.size) (o : Obj) : Row T (W.alloc o) (In lo hi) A xs :=
  h.mono (fun _ h => h) fun b hb => Below.heap_alloc _ _ _ (Nat.lt_of_lt_of_le hb.2 hh)
theorem Row.inSet {lo hi : Nat} {A : Option Addr} (h : Row T W (In lo hi) A xs) {p : Addr} (hp : hi ≤ p.block) (u : Value) : Row T (W.setCell p u) (In lo hi) A xs :=
  h.mono (fun _ h => h) fun b hb => Below.heap_setCell _ _ _ b (by have := hb.2; omega)
theorem Row.inOnly {lo hi : Nat} {A : Option Addr} {K' : Nat → Prop} (h : Row T W (In lo hi) A xs) (k : Only K' W W') (hh : hi ≤ W.heap.size) (hK : ∀ b, lo ≤ b → b < hi → ¬ K' b) : Row T W' (In lo hi) A xs :=
  h.mono (fun _ h => h) fun b hb => k.block b (Nat.lt_of_lt_of_le hb.2 hh) (hK b hb.1 hb.2)
theorem Row.inOld {lo hi : Nat} {A : Option Addr} (h : Row T W (In lo hi) A xs) (hh : hi ≤ W.heap.size) : Row T W (Old W) A xs := h.mono (fun b hb => Nat.lt_of_lt_of_le hb.2 hh) (fun _ _ => rfl)
end
end Go.Proofs.YtpcghfeiehdapaaDoor
