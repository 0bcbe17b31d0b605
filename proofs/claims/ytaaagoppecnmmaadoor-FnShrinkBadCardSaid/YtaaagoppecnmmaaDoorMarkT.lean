/- The marks that the laws package writes into transactions and reads back. -/
import Derived.Test.YtaaagoppecnmmaaDoorHold
import Derived.Test.YtaaagoppecnmmaaDoorOwnList
import Derived.Test.YtaaagoppecnmmaaDoorHistS
namespace Go.Proofs.YtaaagoppecnmmaaDoor
open Go.RowKit
set_option linter.unusedVariables false
set_option linter.unusedSimpArgs false

theorem get3 {cur : Array Value} {j : Nat} {a b c : Value} (h : j * 3 + 2 < cur.size) (i : Nat) :
    (((cur.setIfInBounds (j * 3) a).setIfInBounds (j * 3 + 1) b).setIfInBounds (j * 3 + 2) c)[i]? = if i = j * 3 + 2 then some c else if i = j * 3 + 1 then some b else if i = j * 3 then some a else cur[i]? := by
  by_cases h2 : i = j * 3 + 2
  · subst h2; rw [if_pos rfl, Array.getElem?_setIfInBounds, if_pos rfl, if_pos (by simp; omega)]
  · rw [if_neg h2, Array.getElem?_setIfInBounds_ne (by omega)]
    by_cases h1 : i = j * 3 + 1
    · subst h1; rw [if_pos rfl, Array.getElem?_setIfInBounds, if_pos rfl, if_pos (by simp; omega)]
    · rw [if_neg h1, Array.getElem?_setIfInBounds_ne (by omega)]
      by_cases h0 : i = j * 3
      · subst h0; rw [if_pos rfl, Array.getElem?_setIfInBounds, if_pos rfl, if_pos (by omega)]
      · rw [if_neg h0, Array.getElem?_setIfInBounds_ne (by omega)]
theorem Own.roomOp {e : TypeId} {w : World} {S : Nat → Prop} {xs : List Op} {A : Option Addr} {n c : Nat} (h : Own tOp e w S xs (.slice A n c)) : Room w S e A (xs.length * 3) := fun hn => by
  rcases h with ⟨h, rfl⟩ | ⟨g, cap, cur, S', hv, hg, hB, h1, h2, h3, _⟩
  · simp at hn
  · injection hv with hA _ _
    refine ⟨g, cur, hA, hg, hB, ?_⟩
    rw [h3]; show xs.length * 3 ≤ cap * 3; omega
/-- The mark at which transaction j begins. -/
def kAt (k : Int) (ls : List Nat) (j : Nat) : Int := k + (((ls.take j).map fun l => 2 + 3 * l).sum : Nat)
theorem kAt_succ (k : Int) (ls : List Nat) (j : Nat) (h : j < ls.length) : kAt k ls (j + 1) = kAt k ls j + 1 + 3 * (ls[j] : Int) + 1 := by
  unfold kAt
  rw [List.take_succ_eq_append_getElem h, List.map_append, List.sum_append]
  simp
  omega
theorem kAt_le (k : Int) (ls : List Nat) (B : Nat) (hB : ∀ l ∈ ls, l ≤ B) : ∀ j, kAt k ls j ≤ k + j * (2 + 3 * B)
  | 0 => by simp [kAt]
  | j + 1 => by
    have h1 := kAt_le k ls B hB j
    by_cases hj : j < ls.length
    · have h2 := kAt_succ k ls j hj
      have h3 := hB _ (List.getElem_mem hj)
      have h4 : (ls[j] : Int) ≤ (B : Int) := by omega
      have h5 : (((j + 1 : Nat) : Int) * (2 + 3 * (B : Int))) = (j : Int) * (2 + 3 * (B : Int)) + (2 + 3 * (B : Int)) := by rw [Int.natCast_add, Int.add_mul]; simp
      omega
    · have h2 : kAt k ls (j + 1) = kAt k ls j := by unfold kAt; rw [List.take_of_length_le (by omega), List.take_of_length_le (by omega)]
      have h5 : (((j + 1 : Nat) : Int) * (2 + 3 * (B : Int))) = (j : Int) * (2 + 3 * (B : Int)) + (2 + 3 * (B : Int)) := by rw [Int.natCast_add, Int.add_mul]; simp
      omega
theorem kAt_ge (k : Int) (ls : List Nat) (j : Nat) : k ≤ kAt k ls j := by unfold kAt; omega
/-- Transactions of which the first i bear their marks. -/
structure MT (S : Nat → Prop) (g : Nat) (k : Int) (ls gs : List Nat) (i : Nat) (w : World) : Prop where
  blk : ∃ cur, Blk w g 42 cur ∧ ls.length * 3 ≤ cur.size
  inn : ∀ j (hj : j < ls.length) (hg : j < gs.length), ∃ A c, w.cell? ⟨g, j * 3 + 1, none⟩ = some (.slice A ls[j] c) ∧ (0 < ls[j] → A = some ⟨gs[j], 0, none⟩ ∧ S gs[j] ∧ ∃ cur, Blk w gs[j] 71 cur ∧ ls[j] * 3 ≤ cur.size ∧ (j < i → ∀ t, t < ls[j] * 3 → cur[t]? = some (.int .i64 (kAt k ls j + 1 + t))))
  out : ∀ j (hj : j < ls.length), j < i → w.cell? ⟨g, j * 3, none⟩ = some (.int .i64 (kAt k ls j)) ∧ w.cell? ⟨g, j * 3 + 2, none⟩ = some (.bool ((kAt k ls j + 1) % 3 == 0))
theorem MT.keep {S : Nat → Prop} {g : Nat} {k : Int} {ls gs : List Nat} {i : Nat} {w w' : World} (h : MT S g k ls gs i w) (hw : ∀ b, S b → w'.heap[b]? = w.heap[b]?) (hg : S g) : MT S g k ls gs i w' := by
  obtain ⟨⟨cur, hb, hs⟩, hi, ho⟩ := h
  refine ⟨⟨cur, hb.of (hw g hg), hs⟩, fun j hj hgj => ?_, fun j hj hji => ?_⟩
  · obtain ⟨A, c, h1, h2⟩ := hi j hj hgj
    refine ⟨A, c, (World.cell?_of_block (hw g hg)).trans h1, fun hp => ?_⟩
    obtain ⟨h3, h4, cur2, h5, h6⟩ := h2 hp
    exact ⟨h3, h4, cur2, h5.of (hw _ h4), h6⟩
  · obtain ⟨h1, h2⟩ := ho j hj hji
    exact ⟨(World.cell?_of_block (hw g hg)).trans h1, (World.cell?_of_block (hw g hg)).trans h2⟩
/-- A history that bears its marks. -/
def Marked (w : World) (S : Nat → Prop) (A : Option Addr) (k : Int) (ls gs : List Nat) : Prop :=
  0 < ls.length → ∃ g, A = some ⟨g, 0, none⟩ ∧ S g ∧ ls.length = gs.length ∧ MT S g k ls gs ls.length w
theorem Marked.keep {w w' : World} {S : Nat → Prop} {A : Option Addr} {k : Int} {ls gs : List Nat} (h : Marked w S A k ls gs) (hw : ∀ b, S b → w'.heap[b]? = w.heap[b]?) : Marked w' S A k ls gs := fun hp => by
  obtain ⟨g, hA, hg, hl, hm⟩ := h hp
  exact ⟨g, hA, hg, hl, hm.keep hw hg⟩
theorem MT.start {w : World} {S : Nat → Prop} {ps : List (Txn × Nat)} {A : Option Addr} {n c g : Nat} (h : Hold (tTxnB 71) 42 w S ps (.slice A n c) g) (hp : 0 < ps.length) (k : Int) :
    A = some ⟨g, 0, none⟩ ∧ S g ∧ MT S g k (ps.map fun p => p.1.Ops.length) (ps.map Prod.snd) 0 w := by
  obtain ⟨A', c', hv, hc, hm, hr⟩ := h
  injection hv with h1 h2 h3
  subst h1
  obtain ⟨rfl, hg, ⟨cur, hB, hs⟩, S', hS', hrow⟩ := hr hp
  refine ⟨rfl, hg, ⟨cur, hB, by rw [List.length_map]; exact hs⟩, fun j hj hgj => ?_, fun j hj h => absurd h (by omega)⟩
  rw [List.length_map] at hj
  obtain ⟨cs, ⟨v, rfl, hH⟩, hcs⟩ := hrow j hj
  obtain ⟨A2, c2, rfl, h4, h5, h6⟩ := hH
  refine ⟨A2, c2, ?_, fun hpos => ?_⟩
  · have := hcs 1 _ rfl
    simp only [tTxnB, Nat.zero_add] at this
    simpa using this
  · simp only [List.getElem_map] at hpos ⊢
    obtain ⟨rfl, hg2, ⟨cur2, hB2, hs2⟩, _⟩ := h6 hpos
    exact ⟨rfl, (hS' _ hg2).1, cur2, hB2, hs2, fun h => absurd h (by omega)⟩
end Go.Proofs.YtaaagoppecnmmaaDoor
