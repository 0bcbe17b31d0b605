/- A map from a key of two numbers to a number, that the call made: what it holds, key by key. -/
import Derived.Test.YtmlbfhknapkhgaaDoorBuild
import Derived.Test.YtmlbfhknapkhgaaDoorRanges
import Derived.Maps.Own
import Derived.Maps.OwnSet
import Derived.Maps.Views
import Derived.DeepKeys4
import Derived.WideKeyPair
namespace Go.Proofs.YtmlbfhknapkhgaaDoor
open Go.RowKit Go.Maps
set_option linter.unusedVariables false
set_option linter.unusedSimpArgs false

theorem laidOutW : laidOutB Tryd.prog = true := by kernel_rfl
theorem sizeW : ∃ m, Tryd.prog.types.size = m + 1 := ⟨Tryd.prog.types.size - 1, by kernel_rfl⟩
theorem cellsW : Tryd.prog.cellsOf 119 = 2 := by kernel_rfl
theorem cellsI : Tryd.prog.cellsOf 3 = 1 := by kernel_rfl
theorem keyTypeW : Tryd.prog.keyType 119 = true := by kernel_rfl
theorem lawW : WideMaps.KeyLaw Tryd.prog 119 := deep_law_laid laidOutW (m := 2) (by omega) (of_decide_eq_true (by kernel_rfl)) (by kernel_rfl) (by rw [Tryd.underlying119])
theorem keyedW : Keyed Tryd.prog 119 := Keyed.of_law lawW
def litW (a b : Int) : Lit := .string (keyBytes [.int .i64 a, .int .i64 b])
theorem keyW (a b : Int) (ha : (Lit.int .i64 a).wf = true) (hb : (Lit.int .i64 b).wf = true) : keyOf Tryd.prog 119 (.agg #[.int .i64 a, .int .i64 b]) = some (litW a b) := by
  obtain ⟨m, hm⟩ := sizeW
  have hk := keyTypeW
  unfold keyOf
  simp only [Tryd.underlying119]
  rw [if_pos (by simp [hk, Value.formed, Tryd.underlying119, cellsW]), hm]
  unfold Program.keyLits
  simp only [Tryd.underlying119, Value.cells]
  rw [if_pos (by rw [cellsW]; simp)]
  simp [Program.keyLits, Tryd.underlying3, ha, hb, cellsI, litW]
theorem litW_inj {a b c d : Int} (ha : (Lit.int .i64 a).wf = true) (hb : (Lit.int .i64 b).wf = true) (hc : (Lit.int .i64 c).wf = true) (hd : (Lit.int .i64 d).wf = true) (h : litW a b = litW c d) : a = c ∧ b = d := by
  have h1 := lawW.inj (keyW a b ha hb) (by rw [h]; exact keyW c d hc hd)
  simpa using h1
theorem zeroIntW (w : World) : (zeroValue 3).run Tryd.prog w = .ok (.int .i64 0) w := by kernel_rfl

def wf64 (a : Int) : Prop := (Lit.int .i64 a).wf = true
theorem wf64_small {a : Int} (h0 : 0 ≤ a) (h1 : a ≤ 1000000) : wf64 a := by
  unfold wf64 Lit.wf
  have e1 : IntKind.i64.min = -9223372036854775808 := by decide
  have e2 : IntKind.i64.max = 9223372036854775807 := by decide
  simp [e1, e2]
  omega
/-- Block b holds, for each key of two numbers, what f says. -/
def Tab (w : World) (b n : Nat) (f : Int → Int → Option Int) : Prop :=
  ∃ D : DataW Unit, w.ownsMap Tryd.prog 119 (plainElem Tryd.prog 3) b n D ∧ IsMap D ∧
    ∀ x y, wf64 x → wf64 y → Maps.has D (litW x y) = (f x y).isSome ∧ ∀ c, f x y = some c → D.atKey (litW x y) (.lit (.int .i64 0)) = .lit (.int .i64 c)
theorem Tab.made (w : World) : Tab (w.alloc (.map #[] 0)) w.heap.size 0 (fun _ _ => none) :=
  ⟨.map [], World.ownsMap_made w _ _ _, isMap_empty, fun x y _ _ => ⟨rfl, fun c h => by cases h⟩⟩
theorem Tab.lt {w : World} {b n : Nat} {f : Int → Int → Option Int} (h : Tab w b n f) : b < w.heap.size := by obtain ⟨D, h, _⟩ := h; exact h.lt
theorem Tab.keep {w w' : World} {b n : Nat} {f : Int → Int → Option Int} (h : Tab w b n f) (he : w'.heap[b]? = w.heap[b]?) : Tab w' b n f := by
  obtain ⟨D, ⟨es, clock, hb, hr⟩, h2⟩ := h
  exact ⟨D, ⟨es, clock, he.trans hb, hr⟩, h2⟩
theorem put_tab {D : DataW Unit} {f : Int → Int → Option Int} (hD : IsMap D) (hf : ∀ x y, wf64 x → wf64 y → Maps.has D (litW x y) = (f x y).isSome ∧ ∀ c, f x y = some c → D.atKey (litW x y) (.lit (.int .i64 0)) = .lit (.int .i64 c)) (a b c : Int) (ha : wf64 a) (hb : wf64 b) :
    ∀ x y, wf64 x → wf64 y → Maps.has (D.put (litW a b) (.lit (.int .i64 c))) (litW x y) = (if x = a ∧ y = b then some c else f x y).isSome ∧ ∀ c', (if x = a ∧ y = b then some c else f x y) = some c' → (D.put (litW a b) (.lit (.int .i64 c))).atKey (litW x y) (.lit (.int .i64 0)) = .lit (.int .i64 c') := fun x y hx hy => by
  by_cases h : x = a ∧ y = b
  · obtain ⟨rfl, rfl⟩ := h
    rw [if_pos ⟨rfl, rfl⟩]
    refine ⟨by rw [has_put_same hD (by simp [litW, WideAt.IsKeyLit])]; rfl, fun c' hc => ?_⟩
    cases hc
    exact atKey_put_same hD (by simp [litW, WideAt.IsKeyLit]) _ _
  · rw [if_neg h]
    have hne : litW x y ≠ litW a b := fun e => h (litW_inj hx hy ha hb e)
    refine ⟨by rw [has_put_other hne]; exact (hf x y hx hy).1, fun c' hc => ?_⟩
    rw [atKey_put_other hne]
    exact (hf x y hx hy).2 c' hc
theorem below_table {B b : Nat} {w w6 w7 : World} (h : Below B w w6) (g : w6.grownBy w7 (some b)) (hb : B ≤ b) (hB : B ≤ w6.heap.size) : Below B w w7 :=
  ⟨g.os.trans h.os, g.tape.trans h.tape, g.output.trans h.output, Nat.le_trans h.size g.size, fun i hi => (g.block i (by omega) (fun e => by injection e with e; omega)).trans (h.block i hi)⟩
end Go.Proofs.YtmlbfhknapkhgaaDoor
