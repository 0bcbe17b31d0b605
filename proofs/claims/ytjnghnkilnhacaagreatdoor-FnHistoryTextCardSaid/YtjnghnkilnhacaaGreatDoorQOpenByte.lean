/- What the arguments of a law read as: slices of numbers, of structs, of slices, opened to rows of cells. Over any program. Bytes as the argument of a law. -/
import Derived.Test.YtjnghnkilnhacaaGreatDoorQElems
import Derived.Test.YtjnghnkilnhacaaGreatDoorQTabT
import Derived.ChangeOld
import Derived.OpenShut
import Derived.Deep.Slices
import Derived.Deep.Fields
namespace Go.Proofs.YtjnghnkilnhacaaGreatDoor
open Go.RowKit Go.ChangeShapes Go.WideShapes Go.Deep

theorem list_of_each {α : Type} (Q : Nat → α → Prop) : ∀ n : Nat, (∀ i, i < n → ∃ x, Q i x) → ∃ xs : List α, xs.length = n ∧ ∀ i (h : i < xs.length), Q i xs[i]
  | 0, _ => ⟨[], rfl, fun _ h => absurd h (by simp)⟩
  | n + 1, h => by
    obtain ⟨xs, hl, hx⟩ := list_of_each Q n (fun i hi => h i (by omega))
    obtain ⟨x, hq⟩ := h n (by omega)
    refine ⟨xs ++ [x], by simp [hl], fun i hi => ?_⟩
    rw [List.length_append] at hi
    simp only [List.length_cons, List.length_nil] at hi
    rcases Nat.lt_or_ge i xs.length with h1 | h1
    · rw [List.getElem_append_left h1]; exact hx i h1
    · obtain rfl : i = n := by omega
      simp [List.getElem_append_right, hl, hq]

section
variable {H : Type} {enc : TypeId × Value → H} {P : Program} {w : World} {base : Nat} {spare : Nat → Bool} {held : Bool}

theorem sl_of_trod {α : Type} (T : Ty α) {t e : TypeId} {fuel : Nat} {cs : List Value} {y : DataW H × List MemPlace} (ht : P.underlying t = some (.slice e)) (hC : P.cellsOf e = T.size) (hT : 0 < T.size)
    (he : ∀ n cs y, DataW.trod enc P w base spare held n e cs = some y → ∃ x, T.rel w (Old w) x cs) (h : DataW.trod enc P w base spare held fuel t cs = some y) : ∃ xs v, cs = [v] ∧ Sl T w (Old w) xs v := by
  rcases open_slice ht h with ⟨rfl, _⟩ | ⟨a, len, cap, m, n, D, Pl, rfl, _, hl, hm, hmm, _, hi⟩
  · exact ⟨[], _, rfl, none, 0, rfl, by simp, by simp [maxLen], Row.nil⟩
  · have hlm : len ≤ m := by rw [hmm]; split <;> omega
    obtain ⟨xs, hxl, hx⟩ := list_of_each (fun i x => ∃ cs', T.rel w (Old w) x cs' ∧ ∀ j, j < T.size → w.cell? ((a.add (i * T.size)).add j) = cs'[j]?) len (fun i hil => by
      obtain ⟨cs', hc, ht'⟩ := hi i (by omega)
      obtain ⟨_, _, hat⟩ := World.cells?_some hc
      obtain ⟨x, hr⟩ := he _ _ _ ht'
      rw [hC] at hat
      exact ⟨x, cs', hr, hat⟩)
    subst hxl
    refine ⟨xs, _, rfl, some a, cap, rfl, hl, hm, fun hp => ?_⟩
    obtain ⟨cs0, hr0, h0⟩ := hx 0 hp
    have hlen0 := T.len hr0
    have hcell0 := h0 0 hT
    rw [List.getElem?_eq_getElem (by omega)] at hcell0
    simp only [Nat.zero_mul] at hcell0
    have ha0 : (a.add 0).add 0 = a := by simp [Addr.add]
    rw [ha0] at hcell0
    obtain ⟨b, off, spot⟩ := a
    have hspot : spot = none := by simpa using World.cell?_spot hcell0
    subst hspot
    refine ⟨b, off, rfl, World.block_lt_of_cell? w _ hcell0, fun k hk => ?_⟩
    obtain ⟨cs', hr, hat⟩ := hx k hk
    refine ⟨cs', hr, fun j u hu => ?_⟩
    have hj : j < T.size := by rw [← T.len hr]; exact (List.getElem?_eq_some_iff.1 hu).1
    have h1 := hat j hj
    rw [Go.WideShapes.add_plain, Go.WideShapes.add_plain] at h1
    rw [h1, hu]

variable {i64 : TypeId}
end
end Go.Proofs.YtjnghnkilnhacaaGreatDoor
namespace Go.Proofs.YtjnghnkilnhacaaGreatDoor
open Go.RowKit Go.ChangeShapes Go.WideShapes Go.Deep
section
variable {H : Type} {enc : TypeId × Value → H} {P : Program} {w : World} {base : Nat} {spare : Nat → Bool} {held : Bool}
theorem elemByte {e : TypeId} (he : P.underlying e = some (.int .u8)) : ∀ n cs y, DataW.trod enc P w base spare held n e cs = some y → ∃ x, tByte.rel w (Old w) x cs := fun _ _ _ h => by
  obtain ⟨n, rfl, _, hw⟩ := DataW.trod_int he h
  have hmin : IntKind.u8.min = 0 := rfl
  have hmax : IntKind.u8.max = 255 := rfl
  simp only [Lit.wf, Bool.and_eq_true, decide_eq_true_eq] at hw
  exact ⟨n, rfl, by omega, by omega⟩
end
end Go.Proofs.YtjnghnkilnhacaaGreatDoor
