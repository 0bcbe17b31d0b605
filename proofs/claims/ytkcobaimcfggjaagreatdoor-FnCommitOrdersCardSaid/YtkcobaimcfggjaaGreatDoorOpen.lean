/- What the arguments of a law read as: slices of numbers, of structs, of slices, opened to rows of cells. Over any program. -/
import Derived.Test.YtkcobaimcfggjaaGreatDoorBase
import Derived.ChangeOld
import Derived.OpenShut
import Derived.Deep.Slices
import Derived.Deep.Fields
namespace Go.Proofs.YtkcobaimcfggjaaGreatDoor
open Go.RowKit Go.ChangeShapes Go.WideShapes Go.Deep

theorem list_of_each {α : Type} (Q : Nat → α → Prop) : ∀ n : Nat, (∀ i, i < n → ∃ x, Q i x) → ∃ xs : List α, xs.length = n ∧ ∀ i (h : i < xs.length), Q i xs[i]
  | 0, _ => ⟨[], rfl, fun _ h => absurd h (by simp)⟩
  | n + 1, h => by
    obtain ⟨xs, hl, hx⟩ := list_of_each Q n (fun i hi => h i (by omega))
    obtain ⟨x, hq⟩ := h n (by omega)
    refine ⟨xs ++ [x], by simp [hl], fun i hi => ?_⟩
    rw [List.length_append] at hi
    simp only [List.length_cons, List.length_nil] at hi
    rcases Nat.lt_or_ge i xs.length with h1 | h1
    · rw [List.getElem_append_left h1]; exact hx i h1
    · obtain rfl : i = n := by omega
      simp [List.getElem_append_right, hl, hq]

section
variable {H : Type} {enc : TypeId × Value → H} {P : Program} {w : World} {base : Nat} {spare : Nat → Bool} {held : Bool}

theorem sl_of_trod {α : Type} (T : Ty α) {t e : TypeId} {fuel : Nat} {cs : List Value} {y : DataW H × List MemPlace} (ht : P.underlying t = some (.slice e)) (hC : P.cellsOf e = T.size) (hT : 0 < T.size)
    (he : ∀ n cs y, DataW.trod enc P w base spare held n e cs = some y → ∃ x, T.rel w (Old w) x cs) (h : DataW.trod enc P w base spare held fuel t cs = some y) : ∃ xs v, cs = [v] ∧ Sl T w (Old w) xs v := by
  rcases open_slice ht h with ⟨rfl, _⟩ | ⟨a, len, cap, m, n, D, Pl, rfl, _, hl, hm, hmm, _, hi⟩
  · exact ⟨[], _, rfl, none, 0, rfl, by simp, by simp [maxLen], Row.nil⟩
  · have hlm : len ≤ m := by rw [hmm]; split <;> omega
    obtain ⟨xs, hxl, hx⟩ := list_of_each (fun i x => ∃ cs', T.rel w (Old w) x cs' ∧ ∀ j, j < T.size → w.cell? ((a.add (i * T.size)).add j) = cs'[j]?) len (fun i hil => by
      obtain ⟨cs', hc, ht'⟩ := hi i (by omega)
      obtain ⟨_, _, hat⟩ := World.cells?_some hc
      obtain ⟨x, hr⟩ := he _ _ _ ht'
      rw [hC] at hat
      exact ⟨x, cs', hr, hat⟩)
    subst hxl
    refine ⟨xs, _, rfl, some a, cap, rfl, hl, hm, fun hp => ?_⟩
    obtain ⟨cs0, hr0, h0⟩ := hx 0 hp
    have hlen0 := T.len hr0
    have hcell0 := h0 0 hT
    rw [List.getElem?_eq_getElem (by omega)] at hcell0
    simp only [Nat.zero_mul] at hcell0
    have ha0 : (a.add 0).add 0 = a := by simp [Addr.add]
    rw [ha0] at hcell0
    obtain ⟨b, off, spot⟩ := a
    have hspot : spot = none := by simpa using World.cell?_spot hcell0
    subst hspot
    refine ⟨b, off, rfl, World.block_lt_of_cell? w _ hcell0, fun k hk => ?_⟩
    obtain ⟨cs', hr, hat⟩ := hx k hk
    refine ⟨cs', hr, fun j u hu => ?_⟩
    have hj : j < T.size := by rw [← T.len hr]; exact (List.getElem?_eq_some_iff.1 hu).1
    have h1 := hat j hj
    rw [Go.WideShapes.add_plain, Go.WideShapes.add_plain] at h1
    rw [h1, hu]

theorem elemInt {e : TypeId} (he : P.underlying e = some (.int .i64)) : ∀ n cs y, DataW.trod enc P w base spare held n e cs = some y → ∃ x, tInt.rel w (Old w) x cs := fun _ _ _ h => by
  obtain ⟨n, rfl, _, _⟩ := DataW.trod_int he h
  exact ⟨n, rfl⟩
theorem elemIntS {t e : TypeId} (ht : P.underlying t = some (.slice e)) (hC : P.cellsOf e = 1) (he : P.underlying e = some (.int .i64)) :
    ∀ n cs y, DataW.trod enc P w base spare held n t cs = some y → ∃ x, (tSlice tInt).rel w (Old w) x cs := fun _ _ _ h => by
  obtain ⟨xs, v, rfl, hs⟩ := sl_of_trod tInt ht hC (by decide) (elemInt he) h
  exact ⟨xs, v, rfl, hs⟩
/-- A struct's fields, each by its own reading. -/
theorem fields_of_trod {t : TypeId} {fs : Array Field} {fuel : Nat} {cs : List Value} {y : DataW H × List MemPlace} (he : P.underlying t = some (.struct fs)) (h : DataW.trod enc P w base spare held fuel t cs = some y) :
    cs.length = P.cellsOf t ∧ ∀ (i : Nat) (f : Field), fs[i]? = some f → ∃ n z, DataW.trod enc P w base spare held n f.type ((cs.drop f.offset).take (P.cellsOf f.type)) = some z := by
  obtain ⟨ys, n, _, _, hlen, hyl, hf⟩ := DataW.trod_struct he h
  refine ⟨hlen, fun i f hi => ?_⟩
  have hil : i < fs.size := (Array.getElem?_eq_some_iff.1 hi).1
  exact ⟨n, ys[i]'(by omega), by rw [hf i f hi, List.getElem?_eq_getElem]⟩
theorem len2 {α : Type} {l : List α} (h : l.length = 2) : ∃ a b, l = [a, b] := by match l, h with | [a, b], _ => exact ⟨a, b, rfl⟩
theorem len3 {α : Type} {l : List α} (h : l.length = 3) : ∃ a b c, l = [a, b, c] := by match l, h with | [a, b, c], _ => exact ⟨a, b, c, rfl⟩
theorem len4 {α : Type} {l : List α} (h : l.length = 4) : ∃ a b c d, l = [a, b, c, d] := by match l, h with | [a, b, c, d], _ => exact ⟨a, b, c, d, rfl⟩
theorem intField {cs : List Value} {v : Value} {t : TypeId} {n : Nat} {z : DataW H × List MemPlace} (ht : P.underlying t = some (.int .i64)) (hcs : cs = [v]) (h : DataW.trod enc P w base spare held n t cs = some z) : ∃ x, v = .int .i64 x := by
  subst hcs
  obtain ⟨x, hx, _, _⟩ := DataW.trod_int ht h
  exact ⟨x, by simpa using hx⟩
theorem boolField {cs : List Value} {v : Value} {t : TypeId} {n : Nat} {z : DataW H × List MemPlace} (ht : P.underlying t = some .bool) (hcs : cs = [v]) (h : DataW.trod enc P w base spare held n t cs = some z) : ∃ x, v = .bool x := by
  subst hcs
  obtain ⟨x, hx, _⟩ := DataW.trod_bool ht h
  exact ⟨x, by simpa using hx⟩
variable {i64 : TypeId}
theorem elemSpan {t : TypeId} {f0 f1 : Field} (he : P.underlying t = some (.struct #[f0, f1])) (hi : P.underlying i64 = some (.int .i64)) (hC : P.cellsOf t = 2) (hc : P.cellsOf i64 = 1)
    (h0 : (f0.type, f0.offset) = (i64, 0)) (h1 : (f1.type, f1.offset) = (i64, 1)) : ∀ n cs y, DataW.trod enc P w base spare held n t cs = some y → ∃ x, tSpan.rel w (Old w) x cs := fun _ cs _ h => by
  obtain ⟨hl, hf⟩ := fields_of_trod he h
  simp only [Prod.mk.injEq] at h0 h1
  obtain ⟨a, b, rfl⟩ := len2 (hl.trans hC)
  obtain ⟨_, _, g0⟩ := hf 0 f0 rfl
  obtain ⟨_, _, g1⟩ := hf 1 f1 rfl
  rw [h0.1, h0.2, hc] at g0
  rw [h1.1, h1.2, hc] at g1
  obtain ⟨x, rfl⟩ := intField hi rfl g0
  obtain ⟨y, rfl⟩ := intField hi rfl g1
  exact ⟨⟨x, y⟩, rfl⟩
theorem elem3 {t : TypeId} {f0 f1 f2 : Field} (he : P.underlying t = some (.struct #[f0, f1, f2])) (hi : P.underlying i64 = some (.int .i64)) (hC : P.cellsOf t = 3) (hc : P.cellsOf i64 = 1)
    (h0 : (f0.type, f0.offset) = (i64, 0)) (h1 : (f1.type, f1.offset) = (i64, 1)) (h2 : (f2.type, f2.offset) = (i64, 2)) : ∀ n cs y, DataW.trod enc P w base spare held n t cs = some y → ∃ a b c : Int, cs = [.int .i64 a, .int .i64 b, .int .i64 c] := fun _ cs _ h => by
  obtain ⟨hl, hf⟩ := fields_of_trod he h
  simp only [Prod.mk.injEq] at h0 h1 h2
  obtain ⟨a, b, c, rfl⟩ := len3 (hl.trans hC)
  obtain ⟨_, _, g0⟩ := hf 0 f0 rfl
  obtain ⟨_, _, g1⟩ := hf 1 f1 rfl
  obtain ⟨_, _, g2⟩ := hf 2 f2 rfl
  rw [h0.1, h0.2, hc] at g0
  rw [h1.1, h1.2, hc] at g1
  rw [h2.1, h2.2, hc] at g2
  obtain ⟨x, rfl⟩ := intField hi rfl g0
  obtain ⟨y, rfl⟩ := intField hi rfl g1
  obtain ⟨z, rfl⟩ := intField hi rfl g2
  exact ⟨x, y, z, rfl⟩
theorem elemOp {t : TypeId} {f0 f1 f2 : Field} (he : P.underlying t = some (.struct #[f0, f1, f2])) (hi : P.underlying i64 = some (.int .i64)) (hC : P.cellsOf t = 3) (hc : P.cellsOf i64 = 1)
    (h0 : (f0.type, f0.offset) = (i64, 0)) (h1 : (f1.type, f1.offset) = (i64, 1)) (h2 : (f2.type, f2.offset) = (i64, 2)) : ∀ n cs y, DataW.trod enc P w base spare held n t cs = some y → ∃ x, tOp.rel w (Old w) x cs := fun n cs y h => by
  obtain ⟨a, b, c, rfl⟩ := elem3 he hi hC hc h0 h1 h2 n cs y h
  exact ⟨⟨a, b, c⟩, rfl⟩
theorem elemEdge {t : TypeId} {f0 f1 f2 : Field} (he : P.underlying t = some (.struct #[f0, f1, f2])) (hi : P.underlying i64 = some (.int .i64)) (hC : P.cellsOf t = 3) (hc : P.cellsOf i64 = 1)
    (h0 : (f0.type, f0.offset) = (i64, 0)) (h1 : (f1.type, f1.offset) = (i64, 1)) (h2 : (f2.type, f2.offset) = (i64, 2)) : ∀ n cs y, DataW.trod enc P w base spare held n t cs = some y → ∃ x, tEdge.rel w (Old w) x cs := fun n cs y h => by
  obtain ⟨a, b, c, rfl⟩ := elem3 he hi hC hc h0 h1 h2 n cs y h
  exact ⟨⟨a, b, c⟩, rfl⟩
theorem elemCall {t ts : TypeId} {f0 f1 f2 g0 g1 : Field} (he : P.underlying t = some (.struct #[f0, f1, f2])) (hs : P.underlying ts = some (.struct #[g0, g1])) (hi : P.underlying i64 = some (.int .i64)) (hC : P.cellsOf t = 4) (hCs : P.cellsOf ts = 2) (hc : P.cellsOf i64 = 1)
    (h0 : (f0.type, f0.offset) = (i64, 0)) (h1 : (f1.type, f1.offset) = (i64, 1)) (h2 : (f2.type, f2.offset) = (ts, 2)) (k0 : (g0.type, g0.offset) = (i64, 0)) (k1 : (g1.type, g1.offset) = (i64, 1)) :
    ∀ n cs y, DataW.trod enc P w base spare held n t cs = some y → ∃ x, tCall.rel w (Old w) x cs := fun _ cs _ h => by
  obtain ⟨hl, hf⟩ := fields_of_trod he h
  simp only [Prod.mk.injEq] at h0 h1 h2
  obtain ⟨a, b, c, d, rfl⟩ := len4 (hl.trans hC)
  obtain ⟨_, _, g0⟩ := hf 0 f0 rfl
  obtain ⟨_, _, g1⟩ := hf 1 f1 rfl
  obtain ⟨_, _, g2⟩ := hf 2 f2 rfl
  rw [h0.1, h0.2, hc] at g0
  rw [h1.1, h1.2, hc] at g1
  rw [h2.1, h2.2, hCs] at g2
  obtain ⟨x, rfl⟩ := intField hi rfl g0
  obtain ⟨y, rfl⟩ := intField hi rfl g1
  obtain ⟨s, hs'⟩ := elemSpan hs hi hCs hc k0 k1 _ _ _ g2
  have e : [c, d] = [Value.int .i64 s.From, Value.int .i64 s.To] := hs'
  simp only [List.cons.injEq, and_true] at e
  obtain ⟨rfl, rfl⟩ := e
  exact ⟨⟨x, y, s⟩, rfl⟩
theorem elemDraft {t tl te : TypeId} {f0 f1 g0 g1 g2 : Field} (he : P.underlying t = some (.struct #[f0, f1])) (hl_ : P.underlying tl = some (.slice te)) (hs : P.underlying te = some (.struct #[g0, g1, g2])) (hi : P.underlying i64 = some (.int .i64))
    (hC : P.cellsOf t = 2) (hCl : P.cellsOf tl = 1) (hCe : P.cellsOf te = 3) (hc : P.cellsOf i64 = 1)
    (h0 : (f0.type, f0.offset) = (i64, 0)) (h1 : (f1.type, f1.offset) = (tl, 1)) (k0 : (g0.type, g0.offset) = (i64, 0)) (k1 : (g1.type, g1.offset) = (i64, 1)) (k2 : (g2.type, g2.offset) = (i64, 2)) :
    ∀ n cs y, DataW.trod enc P w base spare held n t cs = some y → ∃ x, tDraft.rel w (Old w) x cs := fun _ cs _ h => by
  obtain ⟨hl, hf⟩ := fields_of_trod he h
  simp only [Prod.mk.injEq] at h0 h1
  obtain ⟨a, b, rfl⟩ := len2 (hl.trans hC)
  obtain ⟨_, _, g0⟩ := hf 0 f0 rfl
  obtain ⟨_, _, g1⟩ := hf 1 f1 rfl
  rw [h0.1, h0.2, hc] at g0
  rw [h1.1, h1.2, hCl] at g1
  obtain ⟨x, rfl⟩ := intField hi rfl g0
  obtain ⟨xs, v, hv, hsl⟩ := sl_of_trod tOp hl_ hCe (by decide) (elemOp hs hi hCe hc k0 k1 k2) g1
  obtain rfl : b = v := by simpa using hv
  exact ⟨⟨x, xs⟩, b, rfl, hsl⟩
theorem elemTxn {t tl te tb : TypeId} {f0 f1 f2 g0 g1 g2 : Field} (he : P.underlying t = some (.struct #[f0, f1, f2])) (hl_ : P.underlying tl = some (.slice te)) (hs : P.underlying te = some (.struct #[g0, g1, g2])) (hi : P.underlying i64 = some (.int .i64)) (hb : P.underlying tb = some .bool)
    (hC : P.cellsOf t = 3) (hCl : P.cellsOf tl = 1) (hCe : P.cellsOf te = 3) (hc : P.cellsOf i64 = 1) (hCb : P.cellsOf tb = 1)
    (h0 : (f0.type, f0.offset) = (i64, 0)) (h1 : (f1.type, f1.offset) = (tl, 1)) (h2 : (f2.type, f2.offset) = (tb, 2)) (k0 : (g0.type, g0.offset) = (i64, 0)) (k1 : (g1.type, g1.offset) = (i64, 1)) (k2 : (g2.type, g2.offset) = (i64, 2)) :
    ∀ n cs y, DataW.trod enc P w base spare held n t cs = some y → ∃ x, tTxn.rel w (Old w) x cs := fun _ cs _ h => by
  obtain ⟨hl, hf⟩ := fields_of_trod he h
  simp only [Prod.mk.injEq] at h0 h1 h2
  obtain ⟨a, b, c, rfl⟩ := len3 (hl.trans hC)
  obtain ⟨_, _, g0⟩ := hf 0 f0 rfl
  obtain ⟨_, _, g1⟩ := hf 1 f1 rfl
  obtain ⟨_, _, g2⟩ := hf 2 f2 rfl
  rw [h0.1, h0.2, hc] at g0
  rw [h1.1, h1.2, hCl] at g1
  rw [h2.1, h2.2, hCb] at g2
  obtain ⟨x, rfl⟩ := intField hi rfl g0
  obtain ⟨d, rfl⟩ := boolField hb rfl g2
  obtain ⟨xs, v, hv, hsl⟩ := sl_of_trod tOp hl_ hCe (by decide) (elemOp hs hi hCe hc k0 k1 k2) g1
  obtain rfl : b = v := by simpa using hv
  exact ⟨⟨x, xs, d⟩, b, rfl, hsl⟩
end
theorem lens_IntS {w : World} {S : Nat → Prop} {A : Option Addr} {xs : List (List Int)} (h : Row (tSlice tInt) w S A xs) : ∀ x ∈ xs, x.length ≤ maxLen := fun x hx => by
  obtain ⟨k, hk, rfl⟩ := List.getElem_of_mem hx
  obtain ⟨b, off, _, _, hr⟩ := h (by omega)
  obtain ⟨cs, ⟨v, _, A2, c2, _, h1, h2, _⟩, _⟩ := hr k hk
  omega
theorem lens_Draft {w : World} {S : Nat → Prop} {A : Option Addr} {xs : List Draft} (h : Row tDraft w S A xs) : ∀ x ∈ xs, x.Steps.length ≤ maxLen := fun x hx => by
  obtain ⟨k, hk, rfl⟩ := List.getElem_of_mem hx
  obtain ⟨b, off, _, _, hr⟩ := h (by omega)
  obtain ⟨cs, ⟨v, _, A2, c2, _, h1, h2, _⟩, _⟩ := hr k hk
  omega
theorem lens_Txn {w : World} {S : Nat → Prop} {A : Option Addr} {xs : List Txn} (h : Row tTxn w S A xs) : ∀ x ∈ xs, x.Ops.length ≤ maxLen := fun x hx => by
  obtain ⟨k, hk, rfl⟩ := List.getElem_of_mem hx
  obtain ⟨b, off, _, _, hr⟩ := h (by omega)
  obtain ⟨cs, ⟨v, _, A2, c2, _, h1, h2, _⟩, _⟩ := hr k hk
  omega
end Go.Proofs.YtkcobaimcfggjaaGreatDoor
