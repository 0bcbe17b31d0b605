/- The reader of the draws: a byte slice and a place. What pick, odd and l20Open answer. -/
import Derived.Test.YtmlbfhknapkhgaaDoorProg
import Derived.Test.YtmlbfhknapkhgaaDoorBuild
import Derived.Laws.BitsAllLaws
import Derived.Laws.BitsLemmas
import Derived.Deep.Cut
import Derived.IntWalk
namespace Go.Proofs.YtmlbfhknapkhgaaDoor
open Go.RowKit
set_option linter.unusedVariables false
set_option linter.unusedSimpArgs false

theorem ofInt_i64 (a : Nat) (ha : a < 9223372036854775808) : (BitVec.ofInt 64 (a : Int)).toNat = a := by
  rw [BitVec.ofInt_natCast, BitVec.toNat_ofNat]; exact Nat.mod_eq_of_lt (by omega)
theorem i64_xor_nat (a b : Nat) (ha : a < 9223372036854775808) (hb : b < 9223372036854775808) : bits .xor .i64 (a : Int) (b : Int) = ((a ^^^ b : Nat) : Int) := by
  have hx : a ^^^ b < 2 ^ 63 := Nat.xor_lt_two_pow (by omega) (by omega)
  show IntKind.i64.wrap ((BitVec.ofInt 64 (a : Int) ^^^ BitVec.ofInt 64 (b : Int)).toNat : Int) = _
  rw [BitVec.toNat_xor, ofInt_i64 a ha, ofInt_i64 b hb, IntKind.wrap_i64]
  omega
def tByte : Ty Int where
  size := 1
  rel _ _ x cs := cs = [.int .u8 x] ∧ 0 ≤ x ∧ x ≤ 255
  len h := by rw [h.1]; rfl
  one h u hu := by rw [h.1] at hu; simp at hu; subst hu; rfl
  mono h _ _ := h
/-- Only block R, and what is new, has turned. -/
abbrev Gr (w w' : World) (R : Nat) : Prop := w.grownBy w' (some R)
theorem Gr.of_below {w w' : World} {R : Nat} (h : Below w.heap.size w w') : Gr w w' R := ⟨h.os, h.tape, h.output, h.size, fun i hi _ => h.block i hi⟩
theorem gr_refl (w : World) (R : Nat) : Gr w w R := ⟨rfl, rfl, rfl, Nat.le_refl _, fun _ _ _ => rfl⟩
theorem gr_trans {a b c : World} {R : Nat} (h : Gr a b R) (k : Gr b c R) : Gr a c R :=
  ⟨k.os.trans h.os, k.tape.trans h.tape, k.output.trans h.output, Nat.le_trans h.size k.size, fun i hi hn => (k.block i (Nat.lt_of_lt_of_le hi h.size) hn).trans (h.block i hi hn)⟩
theorem gr_drewN {a w : World} {R : Nat} (h : Gr a w R) (n : Nat) : Gr a (w.drewN n) R := ⟨h.os, h.tape, h.output, h.size, h.block⟩
theorem gr_alloc {a w : World} {R : Nat} (h : Gr a w R) (o : Obj) : Gr a (w.alloc o) R :=
  ⟨h.os, h.tape, h.output, Nat.le_trans h.size (by simp), fun i hi hne => (Below.heap_alloc w o i (Nat.lt_of_lt_of_le hi h.size)).trans (h.block i hi hne)⟩
theorem gr_setCell {a w : World} {R : Nat} (h : Gr a w R) {p : Addr} (hp : p.block = R ∨ a.heap.size ≤ p.block) (u : Value) : Gr a (w.setCell p u) R :=
  ⟨h.os, h.tape, h.output, by simpa [World.setCell] using h.size, fun i hi hne => (Below.heap_setCell w p u i (by
    rintro rfl
    rcases hp with hp | hp
    · exact hne (by rw [hp])
    · omega)).trans (h.block i hi hne)⟩
theorem gr_below {a b w : World} {R : Nat} (h : Gr a b R) (k : Below b.heap.size b w) : Gr a w R := gr_trans h (Gr.of_below k)
theorem gr_grown {a b w : World} {R : Nat} {row : Option Nat} (h : Gr a b R) (k : b.grownBy w row) (hr : ∀ i, row = some i → a.heap.size ≤ i) : Gr a w R :=
  ⟨k.os.trans h.os, k.tape.trans h.tape, k.output.trans h.output, Nat.le_trans h.size k.size, fun i hi hn => (k.block i (Nat.lt_of_lt_of_le hi h.size) (fun e => by have := hr i e.symm; omega)).trans (h.block i hi hn)⟩
theorem below_gr {B : Nat} {a b w : World} {R : Nat} (h : Below B a b) (k : Gr b w R) (hB : B ≤ b.heap.size) (hR : B ≤ R) : Below B a w :=
  ⟨k.os.trans h.os, k.tape.trans h.tape, k.output.trans h.output, Nat.le_trans h.size k.size, fun i hi => (k.block i (by omega) (fun e => by injection e; omega)).trans (h.block i hi)⟩
/-- What lies in new blocks stays as it is when the reader goes on. -/
theorem Own.gr {α : Type} {T : Ty α} {e : TypeId} {w w' : World} {R lo : Nat} {S' : Nat → Prop} {xs : List α} {v : Value} (h : Own T e w (In lo w.heap.size) xs v) (hg : Gr w w' R) (hR : R < lo) : Own T e w' (In lo w'.heap.size) xs v :=
  h.mono (fun b hb => ⟨hb.1, Nat.lt_of_lt_of_le hb.2 hg.size⟩) fun b hb => hg.block b hb.2 (fun e => by injection e with e; have := hb.1; omega)

end Go.Proofs.YtmlbfhknapkhgaaDoor
