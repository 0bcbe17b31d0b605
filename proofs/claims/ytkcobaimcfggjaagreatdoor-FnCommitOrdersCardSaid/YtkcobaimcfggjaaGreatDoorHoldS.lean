/- Lists of lists of numbers in memory of the call's own that can be marked, each list in a block of its own. -/
import Derived.Test.YtkcobaimcfggjaaGreatDoorHold
namespace Go.Proofs.YtkcobaimcfggjaaGreatDoor
open Go.RowKit
set_option linter.unusedVariables false
set_option linter.unusedSimpArgs false

/-- Lists that hold something lie in blocks that are told apart. -/
def Far (ps : List (List Int × Nat)) : Prop := ps.Pairwise fun a b => 0 < a.1.length → 0 < b.1.length → a.2 ≠ b.2
def HoldS (w : World) (S : Nat → Prop) (xss : List (List Int)) (v : Value) : Prop :=
  ∃ ps g, ps.map Prod.fst = xss ∧ Hold (tIntSB 3) 30 w S ps v g ∧ Far ps
theorem HoldS.mono {w w' : World} {S S' : Nat → Prop} {xss : List (List Int)} {v : Value} (h : HoldS w S xss v) (h1 : ∀ b, S b → S' b) (h2 : ∀ b, S b → w'.heap[b]? = w.heap[b]?) : HoldS w' S' xss v := by
  obtain ⟨ps, g, e, h3, h4⟩ := h
  exact ⟨ps, g, e, h3.mono h1 h2, h4⟩
theorem HoldS.sl {w : World} {S : Nat → Prop} {xss : List (List Int)} {v : Value} (h : HoldS w S xss v) : Sl (tSlice tInt) w S xss v := by
  obtain ⟨ps, g, rfl, h3, h4⟩ := h
  exact h3.sl.intSB
/-- The mark at which list j begins. -/
def kS (k : Int) (ls : List Nat) (j : Nat) : Int := k + ((ls.take j).sum : Nat)
theorem kS_succ (k : Int) (ls : List Nat) (j : Nat) (h : j < ls.length) : kS k ls (j + 1) = kS k ls j + (ls[j] : Int) := by
  unfold kS
  rw [List.take_succ_eq_append_getElem h, List.sum_append]
  simp
  omega
theorem kS_le (k : Int) (ls : List Nat) (B : Nat) (hB : ∀ l ∈ ls, l ≤ B) : ∀ j, kS k ls j ≤ k + j * B
  | 0 => by simp [kS]
  | j + 1 => by
    have h1 := kS_le k ls B hB j
    have h5 : (((j + 1 : Nat) : Int) * (B : Int)) = (j : Int) * (B : Int) + B := by rw [Int.natCast_add, Int.add_mul]; simp
    by_cases hj : j < ls.length
    · have h2 := kS_succ k ls j hj
      have h3 := hB _ (List.getElem_mem hj)
      omega
    · have h2 : kS k ls (j + 1) = kS k ls j := by unfold kS; rw [List.take_of_length_le (by omega), List.take_of_length_le (by omega)]
      omega
theorem kS_ge (k : Int) (ls : List Nat) (j : Nat) : k ≤ kS k ls j := by unfold kS; omega
/-- Lists of which the first i bear their marks. -/
structure MS (S : Nat → Prop) (g : Nat) (k : Int) (ls gs : List Nat) (i : Nat) (w : World) : Prop where
  blk : ∃ cur, Blk w g 30 cur
  inn : ∀ j (hj : j < ls.length) (hg : j < gs.length), ∃ A c, w.cell? ⟨g, j, none⟩ = some (.slice A ls[j] c) ∧ (0 < ls[j] → A = some ⟨gs[j], 0, none⟩ ∧ S gs[j] ∧ ∃ cur, Blk w gs[j] 3 cur ∧ ls[j] ≤ cur.size ∧ (j < i → ∀ t, t < ls[j] → cur[t]? = some (.int .i64 (kS k ls j + t))))
theorem MS.keep {S : Nat → Prop} {g : Nat} {k : Int} {ls gs : List Nat} {i : Nat} {w w' : World} (h : MS S g k ls gs i w) (hw : ∀ b, S b → w'.heap[b]? = w.heap[b]?) (hg : S g) : MS S g k ls gs i w' := by
  obtain ⟨⟨cur, hb⟩, hi⟩ := h
  refine ⟨⟨cur, hb.of (hw g hg)⟩, fun j hj hgj => ?_⟩
  obtain ⟨A, c, h1, h2⟩ := hi j hj hgj
  refine ⟨A, c, (World.cell?_of_block (hw g hg)).trans h1, fun hp => ?_⟩
  obtain ⟨h3, h4, cur2, h5, h6⟩ := h2 hp
  exact ⟨h3, h4, cur2, h5.of (hw _ h4), h6⟩
def MarkedS (w : World) (S : Nat → Prop) (A : Option Addr) (k : Int) (ls gs : List Nat) : Prop :=
  0 < ls.length → ∃ g, A = some ⟨g, 0, none⟩ ∧ S g ∧ ls.length = gs.length ∧ MS S g k ls gs ls.length w
theorem MarkedS.keep {w w' : World} {S : Nat → Prop} {A : Option Addr} {k : Int} {ls gs : List Nat} (h : MarkedS w S A k ls gs) (hw : ∀ b, S b → w'.heap[b]? = w.heap[b]?) : MarkedS w' S A k ls gs := fun hp => by
  obtain ⟨g, hA, hg, hl, hm⟩ := h hp
  exact ⟨g, hA, hg, hl, hm.keep hw hg⟩
theorem MS.start {w : World} {S : Nat → Prop} {ps : List (List Int × Nat)} {A : Option Addr} {n c g : Nat} (h : Hold (tIntSB 3) 30 w S ps (.slice A n c) g) (hp : 0 < ps.length) (k : Int) :
    A = some ⟨g, 0, none⟩ ∧ S g ∧ MS S g k (ps.map fun p => p.1.length) (ps.map Prod.snd) 0 w := by
  obtain ⟨A', c', hv, hc, hm, hr⟩ := h
  injection hv with h1 h2 h3
  subst h1
  obtain ⟨rfl, hg, ⟨cur, hB, hs⟩, S', hS', hrow⟩ := hr hp
  refine ⟨rfl, hg, ⟨cur, hB⟩, fun j hj hgj => ?_⟩
  have hj2 : j < ps.length := by simpa using hj
  obtain ⟨cs, ⟨v, rfl, A3, c3, rfl, h4, h5, h6⟩, hcs⟩ := hrow j hj2
  refine ⟨A3, c3, ?_, fun hpos => ?_⟩
  · have := hcs 0 _ rfl
    simp only [tIntSB, Nat.zero_add] at this
    simpa using this
  · simp only [List.getElem_map] at hpos ⊢
    obtain ⟨rfl, hg2, ⟨cur2, hB2, hs2⟩, _⟩ := h6 hpos
    have hs3 : ps[j].1.length * 1 ≤ cur2.size := hs2
    exact ⟨rfl, (hS' _ hg2).1, cur2, hB2, by omega, fun h => absurd h (by omega)⟩
/-- The lengths of the lists. -/
def lensS (xss : List (List Int)) : List Nat := xss.map List.length
end Go.Proofs.YtkcobaimcfggjaaGreatDoor
