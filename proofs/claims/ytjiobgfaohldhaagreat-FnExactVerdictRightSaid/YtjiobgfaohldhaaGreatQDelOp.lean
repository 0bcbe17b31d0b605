/- The program's copies: slices.Clone, slices.Clip of operations; copyTxn, copyHistory. slices.DeleteFunc of operations, in place. -/
import Derived.Test.YtjiobgfaohldhaaGreatQAllF
import Derived.Test.YtjiobgfaohldhaaGreatQContC
import Derived.Test.YtjiobgfaohldhaaGreatQDone
import Derived.WalkSpells
import Derived.Lib.SliceRun
namespace Go.Proofs.YtjiobgfaohldhaaGreat
open Go.RowKit
set_option linter.unusedVariables false
set_option linter.unusedSimpArgs false

/-- The cells of an operation at place k. -/
def OpAt (cur : Array Value) (k : Nat) (o : Op) : Prop := cur[k * 3]? = some (.int .i64 o.Kind) ∧ cur[k * 3 + 1]? = some (.int .i64 o.Key) ∧ cur[k * 3 + 2]? = some (.int .i64 o.Value)
theorem opAt_put {cur : Array Value} {i : Nat} {o : Op} (hi : i * 3 + 2 < cur.size) : OpAt (((cur.setIfInBounds (i * 3) (.int .i64 o.Kind)).setIfInBounds (i * 3 + 1) (.int .i64 o.Key)).setIfInBounds (i * 3 + 2) (.int .i64 o.Value)) i o := by
  refine ⟨?_, ?_, ?_⟩
  · rw [Array.getElem?_setIfInBounds_ne (by omega), Array.getElem?_setIfInBounds_ne (by omega), Array.getElem?_setIfInBounds, if_pos rfl, if_pos (by omega)]
  · rw [Array.getElem?_setIfInBounds_ne (by omega), Array.getElem?_setIfInBounds, if_pos rfl, if_pos (by simp; omega)]
  · rw [Array.getElem?_setIfInBounds, if_pos rfl, if_pos (by simp; omega)]
theorem opAt_other {cur : Array Value} {i k : Nat} {o : Op} (a b c : Value) (h : OpAt cur k o) (hik : k ≠ i) : OpAt (((cur.setIfInBounds (i * 3) a).setIfInBounds (i * 3 + 1) b).setIfInBounds (i * 3 + 2) c) k o := by
  obtain ⟨h0, h1, h2⟩ := h
  refine ⟨?_, ?_, ?_⟩
  · rw [Array.getElem?_setIfInBounds_ne (by omega), Array.getElem?_setIfInBounds_ne (by omega), Array.getElem?_setIfInBounds_ne (by omega)]; exact h0
  · rw [Array.getElem?_setIfInBounds_ne (by omega), Array.getElem?_setIfInBounds_ne (by omega), Array.getElem?_setIfInBounds_ne (by omega)]; exact h1
  · rw [Array.getElem?_setIfInBounds_ne (by omega), Array.getElem?_setIfInBounds_ne (by omega), Array.getElem?_setIfInBounds_ne (by omega)]; exact h2
theorem setCells_blk {g : Nat} {e : TypeId} : ∀ (vs : List Value) (o : Nat) (w : World) (cur : Array Value), Blk w g e cur → ∃ cur', Blk (w.setCells g o vs) g e cur' ∧ cur'.size = cur.size ∧ (∀ j, j < o → cur'[j]? = cur[j]?) ∧ Only (fun b => b = g) w (w.setCells g o vs)
  | [], o, w, cur, h => ⟨cur, h, rfl, fun _ _ => rfl, Only.refl _ _⟩
  | v :: r, o, w, cur, h => by
    obtain ⟨cur', h1, h2, h3, h4⟩ := setCells_blk r (o + 1) (w.setCell ⟨g, o, none⟩ v) _ (h.set_ o v)
    refine ⟨cur', h1, by rw [h2]; simp, fun j hj => ?_, (Only.setCell (S := fun b => b = g) (Only.refl _ w) (p := ⟨g, o, none⟩) rfl v).trans h4⟩
    rw [h3 j (by omega), Array.getElem?_setIfInBounds_ne (by omega)]
theorem run_clear_any {P : Program} {w : World} {g : Nat} {e : TypeId} {cur : Array Value} (t : TypeId) (z : Value) (ht : P.underlying t = some (.slice e)) (hv : ∀ w, (zeroValue e).run P w = .ok z w) (hz : ∀ u ∈ z.cells.toList, u.oneCell' = true)
    (o n c : Nat) (hn : 0 < n) (hB : Blk w g e cur) (hs : o + n * z.cells.size ≤ cur.size) :
    ∃ w' cur', (∀ ty, (Builtin.clear_ #[t] ty #[.slice (some ⟨g, o, none⟩) n c]).run P w = .ok (.tuple #[]) w') ∧ Blk w' g e cur' ∧ cur'.size = cur.size ∧ (∀ j, j < o → cur'[j]? = cur[j]?) ∧ Only (fun b => b = g) w w' := by
  obtain ⟨zs, hzs⟩ : ∃ zs, zs = (Builtin.zeroCells z.cells n).toList := ⟨_, rfl⟩
  have hlen : zs.length = n * z.cells.size := by rw [hzs]; simp [Builtin.zeroCells]
  have hone : ∀ v ∈ zs, v.oneCell' = true := by
    intro v hv2
    rw [hzs] at hv2
    simp only [Builtin.zeroCells, Array.toList_map, List.mem_map, Array.mem_toList_iff] at hv2
    obtain ⟨a, ha, rfl⟩ := hv2
    have hpos : 0 < z.cells.size := by
      rcases Nat.eq_zero_or_pos z.cells.size with h0 | h0
      · rw [h0] at ha; simp at ha
      · exact h0
    have hlt := Nat.mod_lt a hpos
    apply hz
    rw [getElem!_pos z.cells _ hlt]
    exact Array.mem_toList_iff.2 (Array.getElem_mem hlt)
  have hst := run_storeCells_cells (P := P) g o zs 0 w
    (fun j hj => by rw [Nat.add_zero, hB.cell, Array.getElem?_eq_getElem (by omega)]; rfl) (fun j hj => by rw [Nat.add_zero]; exact hB.frozen _) hone
  rw [Nat.add_zero] at hst
  obtain ⟨cur', h1, h2, h3, h4⟩ := setCells_blk zs o w cur hB
  refine ⟨_, cur', fun ty => ?_, h1, h2, h3, h4⟩
  obtain ⟨m, rfl⟩ : ∃ m, n = m + 1 := ⟨n - 1, by omega⟩
  simp [Builtin.clear_, run_underlying ht, hv, ← hzs, hst]

end Go.Proofs.YtjiobgfaohldhaaGreat
