/- The orders of values of a schedule: the two ways to tell them are one; the reference's CommitOrders. Three lists of numbers that grow, each in a block of its own; the program's installs and CommitOrders. -/
import Derived.Test.YtkcobaimcfggjaaGreatDoorQHoldS
import Derived.Test.YtkcobaimcfggjaaGreatDoorProg
import Derived.Test.YtkcobaimcfggjaaGreatDoorQRanges
import Derived.Test.YtkcobaimcfggjaaGreatDoorQToA
import Derived.Test.YtkcobaimcfggjaaGreatDoorQHold
import Derived.Test.YtkcobaimcfggjaaGreatDoorQAnyOrder
import Derived.BigQuiet
namespace Go.Proofs.YtkcobaimcfggjaaGreatDoor
open Go.RowKit Go.Maps
set_option linter.unusedVariables false
set_option linter.unusedSimpArgs false

/-- The values that an order installs for a key. -/
def instK (h : List Txn) (key : Int) (ord : List Int) : List Int := ord.flatMap fun n => (lastW (opsOf h n) key).toList.map Op.Value
def instR (h : List Txn) (ord : List Int) : List (List Int) := [instK h 0 ord, instK h 1 ord, instK h 2 ord]
theorem instK_append (h : List Txn) (key : Int) (a b : List Int) : instK h key (a ++ b) = instK h key a ++ instK h key b := by
  unfold instK; rw [List.flatMap_append]
theorem instK_one (h : List Txn) (key n : Int) : instK h key [n] = (lastW (opsOf h n) key).toList.map Op.Value := by
  unfold instK; simp
theorem instK_len (h : List Txn) (key : Int) : ∀ ord : List Int, (instK h key ord).length ≤ ord.length
  | [] => by simp [instK]
  | n :: l => by
    have h1 : instK h key (n :: l) = (lastW (opsOf h n) key).toList.map Op.Value ++ instK h key l := by unfold instK; rw [List.flatMap_cons]
    rw [h1, List.length_append, List.length_map, List.length_cons]
    have h2 := instK_len h key l
    have h3 : (lastW (opsOf h n) key).toList.length ≤ 1 := by cases lastW (opsOf h n) key <;> simp
    omega
theorem Own.narrow {e : TypeId} {w : World} {S : Nat → Prop} {xs : List Int} {v : Value} (h : Own tInt e w S xs v) : Own tInt e w (fun b => v.ownBlock = some b) xs v := by
  rcases h with ⟨rfl, rfl⟩ | ⟨g, cap, cur, S', rfl, hg, hB, h1, h2, h3, h4, h5⟩
  · exact .inl ⟨rfl, rfl⟩
  · exact .inr ⟨g, cap, cur, fun _ => False, rfl, rfl, hB, h1, h2, h3, fun b h => h.elim, fun k hk => h5 k hk⟩
theorem Own.holdG {e : TypeId} {w : World} {S : Nat → Prop} {xs : List Int} {v : Value} (h : Own tInt e w S xs v) : Hold tInt e w S xs v (v.ownBlock.getD 0) := by
  rcases h with ⟨rfl, rfl⟩ | ⟨g, cap, cur, S', rfl, hg, hB, h1, h2, h3, h4, h5⟩
  · exact ⟨none, 0, rfl, by simp, by simp [maxLen], fun h => absurd h (by simp)⟩
  · exact ⟨_, cap, rfl, h1, h2, fun _ => ⟨rfl, hg, ⟨cur, hB, by rw [h3]; exact Nat.mul_le_mul_right _ h1⟩, S', h4, h5⟩⟩
theorem Own.has {e : TypeId} {w : World} {S : Nat → Prop} {xs : List Int} {v : Value} (h : Own tInt e w S xs v) (hp : 0 < xs.length) : v.ownBlock = some (v.ownBlock.getD 0) := by
  rcases h with ⟨rfl, rfl⟩ | ⟨g, cap, cur, S', rfl, hg, hB, h1, h2, h3, h4, h5⟩
  · exact absurd hp (by simp)
  · rfl
/-- The three lists: their blocks are of Q and told apart. -/
structure RowsO (w : World) (r : Nat) (Q : Nat → Prop) (f : Nat → List Int) (cur : Array Value) : Prop where
  blk : Blk w r 30 cur
  size : cur.size = 3
  own : ∀ (j : Nat) (v : Value), j < 3 → cur[j]? = some v → Own tInt 3 w (fun b => v.ownBlock = some b) (f j) v ∧ ∀ b, v.ownBlock = some b → Q b ∧ Old w b
  far : ∀ (i j : Nat) (vi vj : Value), i ≠ j → cur[i]? = some vi → cur[j]? = some vj → ∀ b, vi.ownBlock = some b → vj.ownBlock ≠ some b
def nil3 : Array Value := #[.slice none 0 0, .slice none 0 0, .slice none 0 0]
theorem RowsO.start (w : World) (Q : Nat → Prop) : RowsO (w.alloc (.cells nil3 30)) w.heap.size Q (fun _ => []) nil3 := by
  have hn : ∀ (j : Nat) (v : Value), nil3[j]? = some v → v = Value.slice none 0 0 := fun j v h => by
    unfold nil3 at h
    match j, h with
    | 0, h => simpa using h.symm
    | 1, h => simpa using h.symm
    | 2, h => simpa using h.symm
    | n + 3, h => simp at h
  refine ⟨Blk.new _ _ _, rfl, fun j v hj hv => ?_, fun i j vi vj hij hi hj b hb => ?_⟩
  · rw [hn j v hv]
    exact ⟨Own.nil_, fun b hb => by simp [Value.ownBlock] at hb⟩
  · rw [hn i vi hi] at hb
    simp [Value.ownBlock] at hb
theorem RowsO.keep {w w' : World} {r : Nat} {Q Q' : Nat → Prop} {f : Nat → List Int} {cur : Array Value} (h : RowsO w r Q f cur) (hs : w.heap.size ≤ w'.heap.size) (hr : w'.heap[r]? = w.heap[r]?) (hw : ∀ b, Q b ∧ Old w b → w'.heap[b]? = w.heap[b]?) (hQ : ∀ b, Q b ∧ Old w b → Q' b) : RowsO w' r Q' f cur :=
  ⟨h.blk.of hr, h.size, fun j v hj hv => by
    obtain ⟨h1, h2⟩ := h.own j v hj hv
    exact ⟨h1.mono (fun _ h => h) (fun b hb => hw b (h2 b hb)), fun b hb => ⟨hQ b (h2 b hb), Nat.lt_of_lt_of_le (h2 b hb).2 hs⟩⟩, h.far⟩
theorem RowsO.congr {w : World} {r : Nat} {Q : Nat → Prop} {f g : Nat → List Int} {cur : Array Value} (h : RowsO w r Q f cur) (hfg : ∀ j, j < 3 → f j = g j) : RowsO w r Q g cur :=
  ⟨h.blk, h.size, fun j v hj hv => by rw [← hfg j hj]; exact h.own j v hj hv, h.far⟩
theorem RowsO.step {w w2 : World} {r : Nat} {Q : Nat → Prop} {f : Nat → List Int} {cur : Array Value} (h : RowsO w r Q f cur) {k : Nat} (hk : k < 3) {v v' : Value} {x : Int} (hv : cur[k]? = some v) (hQ : ∀ b, Q b → r < b) (hN : ∀ b, w.heap.size ≤ b → Q b)
    (hO : Own tInt 3 w2 (fun b => (v.ownBlock = some b ∨ w.heap.size ≤ b) ∧ Old w2 b) (f k ++ [x]) v') (hK : Only (fun b => v.ownBlock = some b ∨ w.heap.size ≤ b) w w2) :
    RowsO (w2.setCell ⟨r, k, none⟩ v') r Q (fun j => if j = k then f j ++ [x] else f j) (cur.setIfInBounds k v') := by
  have hvQ := (h.own k v hk hv).2
  have hrl := h.blk.lt
  have hr2 : w2.heap[r]? = w.heap[r]? := hK.block r hrl (fun hb => by
    rcases hb with hb | hb
    · have := hQ r (hvQ r hb).1; omega
    · omega)
  have hsz : (w2.setCell ⟨r, k, none⟩ v').heap.size = w2.heap.size := by simp [World.setCell]
  have hv' : ∀ b, v'.ownBlock = some b → (v.ownBlock = some b ∨ w.heap.size ≤ b) ∧ Old w2 b := hO.owned
  have hset : ∀ b, r < b → (w2.setCell ⟨r, k, none⟩ v').heap[b]? = w2.heap[b]? := fun b hb => Below.heap_setCell _ _ _ _ (by show b ≠ r; omega)
  have hvq : ∀ b, v'.ownBlock = some b → Q b := fun b hb => by
    rcases (hv' b hb).1 with h1 | h1
    · exact (hvQ b h1).1
    · exact hN b h1
  refine ⟨(h.blk.of hr2).set_ k v', by simpa using h.size, fun j u hj hu => ?_, fun i j vi vj hij hi hj b hb => ?_⟩
  · by_cases hjk : j = k
    · subst hjk
      rw [Array.getElem?_setIfInBounds, if_pos rfl, if_pos (by have := h.size; omega)] at hu
      obtain rfl : v' = u := by simpa using hu
      simp only [if_pos]
      exact ⟨hO.narrow.mono (fun _ h => h) (fun b hb => hset b (hQ b (hvq b hb))), fun b hb => ⟨hvq b hb, by unfold Old; rw [hsz]; exact (hv' b hb).2⟩⟩
    · rw [Array.getElem?_setIfInBounds_ne (by omega)] at hu
      simp only [if_neg hjk]
      obtain ⟨h1, h2⟩ := h.own j u hj hu
      have hnot : ∀ b, u.ownBlock = some b → ¬ (v.ownBlock = some b ∨ w.heap.size ≤ b) := fun b hb hc => by
        rcases hc with hc | hc
        · exact h.far j k u v hjk hu hv b hb hc
        · have := (h2 b hb).2; unfold Old at this; omega
      refine ⟨h1.mono (fun _ h => h) (fun b hb => (hset b (hQ b (h2 b hb).1)).trans (hK.block b (h2 b hb).2 (hnot b hb))), fun b hb => ⟨(h2 b hb).1, ?_⟩⟩
      have := (h2 b hb).2
      have h9 := hK.size
      unfold Old at this ⊢
      rw [hsz]; omega
  · have hold : ∀ i u, cur[i]? = some u → i < 3 ∧ ∀ b, u.ownBlock = some b → Old w b := fun i u hi => by
      have hi3 : i < 3 := by
        obtain ⟨hlt, _⟩ := Array.getElem?_eq_some_iff.1 hi
        have := h.size; omega
      exact ⟨hi3, fun b hb => ((h.own i u hi3 hi).2 b hb).2⟩
    by_cases hik : i = k
    · subst hik
      rw [Array.getElem?_setIfInBounds, if_pos rfl, if_pos (by have := h.size; omega)] at hi
      obtain rfl : v' = vi := by simpa using hi
      rw [Array.getElem?_setIfInBounds_ne (by omega)] at hj
      intro hc
      rcases (hv' b hb).1 with h1 | h1
      · exact h.far i j v vj hij hv hj b h1 hc
      · have := (hold j vj hj).2 b hc; unfold Old at this; omega
    · rw [Array.getElem?_setIfInBounds_ne (by omega)] at hi
      by_cases hjk : j = k
      · subst hjk
        rw [Array.getElem?_setIfInBounds, if_pos rfl, if_pos (by have := h.size; omega)] at hj
        obtain rfl : v' = vj := by simpa using hj
        intro hc
        rcases (hv' b hc).1 with h1 | h1
        · exact h.far i j vi v hij hi hv b hb h1
        · have := (hold i vi hi).2 b hb; unfold Old at this; omega
      · rw [Array.getElem?_setIfInBounds_ne (by omega)] at hj
        exact h.far i j vi vj hij hi hj b hb
/-- The three lists as they are clipped. -/
structure RowsH (w : World) (r : Nat) (f : Nat → List Int) (gs : Nat → Nat) (cur : Array Value) : Prop where
  blk : Blk w r 30 cur
  size : cur.size = 3
  own : ∀ j, j < 3 → ∃ A c, cur[j]? = some (.slice A (f j).length c) ∧ Hold tInt 3 w (fun b => r < b ∧ Old w b) (f j) (.slice A (f j).length c) (gs j)
theorem RowsO.rowsH {w : World} {r : Nat} {Q : Nat → Prop} {f : Nat → List Int} {cur : Array Value} (h : RowsO w r Q f cur) (hQ : ∀ b, Q b → r < b) :
    ∃ gs : Nat → Nat, RowsH w r f gs cur ∧ ∀ i j, i < 3 → j < 3 → i ≠ j → 0 < (f i).length → 0 < (f j).length → gs i ≠ gs j := by
  refine ⟨fun j => ((cur.getD j undef).ownBlock).getD 0, ⟨h.blk, h.size, fun j hj => ?_⟩, fun i j hi hj hij pi pj => ?_⟩
  · have hjs : j < cur.size := by have := h.size; omega
    have hcj : cur[j]? = some cur[j] := Array.getElem?_eq_getElem hjs
    have hgd : cur.getD j undef = cur[j] := by rw [Array.getD_eq_getD_getElem?, hcj]; rfl
    obtain ⟨h1, h2⟩ := h.own j _ hj hcj
    have h3 := (h1.mono (w' := w) (S2 := fun b => r < b ∧ Old w b) (fun b hb => ⟨hQ b (h2 b hb).1, (h2 b hb).2⟩) (fun _ _ => rfl)).holdG
    obtain ⟨A, c, hv, _⟩ := h3.sl
    refine ⟨A, c, by rw [hcj, hv], ?_⟩
    rw [hgd, ← hv]
    exact h3
  · have hc : ∀ i, i < 3 → ∃ v, cur[i]? = some v ∧ cur.getD i undef = v ∧ Own tInt 3 w (fun b => v.ownBlock = some b) (f i) v := fun i hi => by
      have his : i < cur.size := by have := h.size; omega
      have hci : cur[i]? = some cur[i] := Array.getElem?_eq_getElem his
      exact ⟨_, hci, by rw [Array.getD_eq_getD_getElem?, hci]; rfl, (h.own i _ hi hci).1⟩
    obtain ⟨vi, a1, a2, a3⟩ := hc i hi
    obtain ⟨vj, b1, b2, b3⟩ := hc j hj
    simp only [a2, b2]
    intro e
    have e1 := a3.has pi
    have e2 := b3.has pj
    rw [e] at e1
    exact h.far i j vi vj hij a1 b1 _ e1 e2
theorem RowsH.clip {w : World} {r : Nat} {f : Nat → List Int} {gs : Nat → Nat} {cur : Array Value} (h : RowsH w r f gs cur) {k : Nat} (hk : k < 3) {A : Option Addr} {c : Nat} (hv : cur[k]? = some (.slice A (f k).length c)) :
    RowsH (w.setCell ⟨r, k, none⟩ (.slice A (f k).length (f k).length)) r f gs (cur.setIfInBounds k (.slice A (f k).length (f k).length)) := by
  have hsz : (w.setCell ⟨r, k, none⟩ (.slice A (f k).length (f k).length)).heap.size = w.heap.size := by simp [World.setCell]
  have hmono : ∀ j v, Hold tInt 3 w (fun b => r < b ∧ Old w b) (f j) v (gs j) → Hold tInt 3 (w.setCell ⟨r, k, none⟩ (.slice A (f k).length (f k).length)) (fun b => r < b ∧ Old (w.setCell ⟨r, k, none⟩ (.slice A (f k).length (f k).length)) b) (f j) v (gs j) := fun j v hj =>
    hj.mono (fun b hb => ⟨hb.1, by unfold Old; rw [hsz]; exact hb.2⟩) (fun b hb => Below.heap_setCell _ _ _ _ (by have := hb.1; show b ≠ r; omega))
  refine ⟨h.blk.set_ _ _, by simpa using h.size, fun j hj => ?_⟩
  obtain ⟨A1, c1, h1, h2⟩ := h.own j hj
  by_cases hjk : j = k
  · subst hjk
    rw [h1] at hv
    injection hv with hv
    injection hv with e1 e2 e3
    subst e1
    refine ⟨A1, _, ?_, hmono j _ h2.clip⟩
    rw [Array.getElem?_setIfInBounds, if_pos rfl, if_pos (by have := h.size; omega)]
  · exact ⟨A1, c1, by rw [Array.getElem?_setIfInBounds_ne (by omega)]; exact h1, hmono j _ h2⟩
theorem RowsH.holdS {w w0 : World} {r : Nat} {f : Nat → List Int} {gs : Nat → Nat} {cur : Array Value} (h : RowsH w r f gs cur) (hr : w0.heap.size ≤ r) (hf : ∀ i j, i < 3 → j < 3 → i ≠ j → 0 < (f i).length → 0 < (f j).length → gs i ≠ gs j) :
    HoldS w (New w0 w) [f 0, f 1, f 2] (.slice (some ⟨r, 0, none⟩) 3 3) := by
  have hrl := h.blk.lt
  have hrow : RowAt (tIntSB 3) w (fun b => r < b ∧ Old w b) r 0 [(f 0, gs 0), (f 1, gs 1), (f 2, gs 2)] := fun k hk => by
    have hk3 : k < 3 := hk
    obtain ⟨A, c, h1, h2⟩ := h.own k hk3
    have he : [(f 0, gs 0), (f 1, gs 1), (f 2, gs 2)][k] = (f k, gs k) := by
      rcases (by omega : k = 0 ∨ k = 1 ∨ k = 2) with rfl | rfl | rfl <;> rfl
    rw [he]
    refine ⟨[.slice A (f k).length c], ⟨_, rfl, h2⟩, fun j u hu => ?_⟩
    match j, hu with
    | 0, hu =>
      have hu2 : Value.slice A (f k).length c = u := by simpa using hu
      rw [← hu2, h.blk.cell]
      show cur[0 + k * 1 + 0]? = _
      rw [show 0 + k * 1 + 0 = k by omega]
      exact h1
  refine ⟨[(f 0, gs 0), (f 1, gs 1), (f 2, gs 2)], r, rfl, ⟨_, 3, rfl, Nat.le_refl _, by simp [maxLen], fun _ => ⟨rfl, ⟨hr, hrl⟩, ⟨cur, h.blk, by rw [h.size]; exact Nat.le_refl _⟩, _, fun b hb => ⟨⟨by have := hb.1; omega, hb.2⟩, by have := hb.1; omega⟩, hrow⟩⟩, ?_⟩
  unfold Far
  refine List.Pairwise.cons (fun p hp => ?_) (List.Pairwise.cons (fun p hp => ?_) (List.pairwise_singleton _ _))
  · simp only [List.mem_cons, List.not_mem_nil, or_false] at hp
    rcases hp with rfl | rfl
    · exact hf 0 1 (by omega) (by omega) (by omega)
    · exact hf 0 2 (by omega) (by omega) (by omega)
  · simp only [List.mem_cons, List.not_mem_nil, or_false] at hp
    subst hp
    exact hf 1 2 (by omega) (by omega) (by omega)
theorem made_nil3 : madeCells (Value.cells (.slice none 0 0)) (3 * 1) = nil3 := by
  apply Array.ext
  · rw [size_madeCells]; rfl
  · intro i h1 h2
    have h3 : i < 3 := h2
    rcases (by omega : i = 0 ∨ i = 1 ∨ i = 2) with rfl | rfl | rfl <;> simp [madeCells, nil3, Value.cells]
theorem clip_Int_ (n : Nat) (A : Option Addr) (c : Nat) (w : World) (hl : n ≤ c) (hc : c ≤ maxLen) :
    Calls Tryz.prog 91 #[.slice A n c] w fun e w' => e = .returned (.slice A n n) ∧ w = w' := by
  unfold maxLen at hc
  have h1 : (0 : Int) ≤ (n : Int) := by omega
  have h2 : (n : Int) ≤ (c : Int) := by omega
  go_enter Tryz.func91, Tryz.ntmps91
  go_wp2
  go_ret
  exact ⟨rfl, rfl⟩
theorem rowOne_ {e : TypeId} {w : World} {q : Nat} {x : Int} (hB : Blk w q e #[.int .i64 x]) : RowAny tInt w (fun _ => False) (some ⟨q, 0, none⟩) [x] := fun _ =>
  ⟨q, 0, rfl, fun k hk => by
    obtain rfl : k = 0 := by simpa using hk
    refine ⟨[.int .i64 x], rfl, fun j u hu => ?_⟩
    obtain ⟨hj, rfl⟩ := List.getElem?_eq_some_iff.1 hu
    obtain rfl : j = 0 := by simpa using hj
    simpa using hB.cell 0⟩
/-- What each operation of the append's statement yields. -/
def FIn (ob r kk : Nat) (vl : Int) (A1 : Option Addr) (n1 c1 lo : Nat) (ys : List Int) (own : Nat → Prop) (i : Nat) (v : Value) (w : World) : Prop := match i with
  | 0 => v = .slice (some ⟨r, 0, none⟩) 3 3
  | 1 => v = .pointer (some ⟨ob, 1, none⟩)
  | 2 => v = .int .i64 kk
  | 3 => v = .slice (some ⟨r, 0, none⟩) 3 3
  | 4 => v = .pointer (some ⟨ob, 1, none⟩)
  | 5 => v = .int .i64 kk
  | 6 => v = .pointer (some ⟨r, kk, none⟩)
  | 7 => v = .slice A1 n1 c1
  | 8 => v = .pointer (some ⟨ob, 2, none⟩)
  | 9 => v = .int .i64 vl
  | 10 => ∃ p, v = .slice (some ⟨p, 0, none⟩) 1 1 ∧ lo ≤ p ∧ Blk w p 3 #[.int .i64 vl]
  | 11 => Own tInt 3 w (fun b => (own b ∨ lo ≤ b) ∧ Old w b) (ys ++ [vl]) v
  | 12 => v = .pointer (some ⟨r, kk, none⟩)
  | _ => True
theorem FIn.ev {ob r kk : Nat} {vl : Int} {A1 : Option Addr} {n1 c1 lo : Nat} {ys : List Int} {own : Nat → Prop} {i : Nat} {v : Value} {w w' : World} (h : FIn ob r kk vl A1 n1 c1 lo ys own i v w) (h11 : i = 11 → w' = w) (hp : ∀ p, lo ≤ p → p < w.heap.size → w'.heap[p]? = w.heap[p]?) : FIn ob r kk vl A1 n1 c1 lo ys own i v w' := by
  by_cases h12 : i = 11
  · rw [h11 h12]; exact h
  unfold FIn at h ⊢
  split at h
  all_goals first
    | exact h
    | (exfalso; exact h12 rfl)
    | (obtain ⟨p, h1, h2, h3⟩ := h; exact ⟨p, h1, h2, h3.of (hp p h2 h3.lt)⟩)
theorem filter_key {l : List Op} {key k : Int} (h : ∀ o ∈ l, o.Key = key) : l.filter (fun o => o.Key == k) = if key = k then l else [] := by
  split
  · rename_i hk
    rw [List.filter_eq_self]
    intro o ho
    rw [h o ho, hk]; simp
  · rename_i hk
    rw [List.filter_eq_nil_iff]
    intro o ho
    rw [h o ho]; simpa using hk
theorem lastWs_filter (ops : List Op) (k : Nat) (hk : k < 3) : (lastWs ops).filter (fun o => o.Key == (k : Int)) = (lastW ops (k : Int)).toList := by
  have h : ∀ key : Int, ∀ o ∈ (lastW ops key).toList, o.Key = key := fun key o ho => lastW_key (by simpa using ho)
  unfold lastWs
  rw [List.filter_append, List.filter_append, filter_key (h 0), filter_key (h 1), filter_key (h 2)]
  rcases (by omega : k = 0 ∨ k = 1 ∨ k = 2) with rfl | rfl | rfl <;> simp
theorem filter_snoc (L : List Op) (l : Nat) (hl : l < L.length) (j kk : Nat) (kd vl : Int) (he : L[l] = ⟨kd, (kk : Int), vl⟩) :
    ((L.take (l + 1)).filter (fun o => o.Key == (j : Int))).map Op.Value = if j = kk then ((L.take l).filter (fun o => o.Key == (j : Int))).map Op.Value ++ [vl] else ((L.take l).filter (fun o => o.Key == (j : Int))).map Op.Value := by
  rw [List.take_succ_eq_append_getElem hl, List.filter_append, List.map_append, he]
  by_cases hj : j = kk
  · subst hj; simp
  · rw [if_neg hj, List.filter_cons_of_neg (by simp; omega)]; simp
set_option maxRecDepth 10000 in
set_option maxHeartbeats 4000000 in
theorem implInstalls (xs : List Txn) (ord : List Int) (A B : Option Addr) (c d : Nat) (w : World) (hv : histV xs = true) (hin : ∀ n ∈ ord, 0 ≤ n ∧ n < xs.length) (hl : ord.length ≤ 12) (hA : Row tTxn w (Old w) A xs) (hN : Row tInt w (Old w) B ord) :
    Calls Tryz.prog 75 #[.slice A xs.length c, .slice B ord.length d] w fun e w' => ∃ v, e = .returned v ∧ HoldS w' (New w w') (instR xs ord) v ∧ Below w.heap.size w w' := by
  obtain ⟨i0, hi_, hz0, hz1, hz2⟩ := info_parts infoInt_
  obtain ⟨i1, hi1, hz01, hz11, hz21⟩ := info_parts infoIntS_
  have hmk : ∀ W : World, (Instr.makeSlice 24 (.int .i64 3) (.int .i64 3)).run Tryz.prog W = .ok (.slice (some ⟨W.heap.size, 0, none⟩) 3 3) (W.alloc (.cells nil3 30)) := fun W => by
    have h := run_make_rowN (P := Tryz.prog) 24 30 i1 (.slice none 0 0) Tryz.underlying24 hi1 hz01 .i64 .i64 3 3 (Nat.le_refl _) (by rw [hz21]; omega) (by omega) W
    rw [hz11] at h
    rw [← made_nil3]
    exact h
  have hx6 : xs.length ≤ 6 := (histV_parts hv).1
  have hq : xs.length ≤ 9223372036854775807 := by omega
  have hqn : ord.length ≤ 9223372036854775807 := by omega
  have HV := hide (histV_parts hv).2
  have HA := hide hA; have HN := hide hN; have HIn := hide hin
  have HR0 := hide (RowsO.start w (fun b => w.heap.size < b))
  have HB0 := hide ((Below.refl _ w).alloc (Nat.le_refl _) (.cells nil3 30))
  clear hA hN hin hv
  go_enter Tryz.func75, Tryz.ntmps75
  go_wp2
  clear hmk
  go_loopw [7, 9, 14] (fun _ _ i wr => ∃ k : Nat, k ≤ ord.length ∧ i = .int .i64 k ∧ Hid (∃ cur, RowsO wr w.heap.size (fun b => w.heap.size < b) (fun j => instK xs j (ord.take k)) cur) ∧ Hid (Below w.heap.size w wr)) (fun _ _ i _ => ord.length - (intOf i).toNat)
  case atStart => exact ⟨0, Nat.zero_le _, rfl, ⟨nil3, HR0.out⟩, HB0.out⟩
  case round =>
    obtain ⟨k, hk, rfl, hR, hb⟩ := hrel
    have HR := hide hR.out; have HB := hide hb.out
    clear hR hb
    clear HR0 HB0
    by_cases hlt : k < ord.length
    · obtain ⟨b, off, rfl, hbS, d0⟩ := at_Int HN.out HB.out hlt
      obtain ⟨hn0, hn1⟩ := HIn.out _ (List.getElem_mem hlt)
      obtain ⟨n, hn⟩ : ∃ n : Nat, ord[k] = (n : Int) := ⟨ord[k].toNat, by omega⟩
      have hnl : n < xs.length := by omega
      have HTk := hide (show ∀ j : Nat, instK xs j (ord.take (k + 1)) = instK xs j (ord.take k) ++ (lastW xs[n].Ops j).toList.map Op.Value from fun j => by
        rw [List.take_succ_eq_append_getElem hlt, instK_append, instK_one, hn, opsOf_nat hnl])
      rw [hn] at d0
      clear hn hn0 hn1
      obtain ⟨b1, off1, A2, c2, rfl, hbS1, e0, e1, e3, hj1, hj2, hj3⟩ := at_Txn HA.out HB.out hnl
      have htx := HV.out _ (List.getElem_mem hnl)
      have HOk := hide (txnOk_parts htx).1
      have HFR := hide (implLastWrites xs[n] A2 c2 wr (txnOk_parts htx).2 (txnOk_parts htx).1 hj3)
      have HRok := hide (fun o (ho : o ∈ lastWs xs[n].Ops) => HOk.out o (lastWs_mem ho))
      have hRl := lastWs_len xs[n].Ops
      have HFi := hide (fun (j : Nat) (hj : j < 3) => lastWs_filter xs[n].Ops j hj)
      generalize lastWs xs[n].Ops = L at HFR HRok hRl HFi
      have hRq : L.length ≤ 9223372036854775807 := by omega
      clear htx hj3
      go_wp2_with (go_at_call 138; refine HFR.out.mono ?_; rintro e w4 ⟨v4, rfl, hS4, hb4⟩; obtain ⟨A4, c4, rfl, h41, h42, h43⟩ := hS4.sl; have HR4 := hide h43; have HB4 := hide hb4; clear hb4 h43 hS4)
      clear d0 e0 e1 e3
      obtain ⟨wo, hwo⟩ : ∃ wo : World, wo = wr := ⟨_, rfl⟩
      rw [← hwo] at HR HB HB4 HR4
      clear hwo HFR
      have HRs := hide (show ∃ cur, RowsO w4 w.heap.size (fun b => w.heap.size < b ∧ ¬ (wo.heap.size ≤ b ∧ b < w4.heap.size)) (fun j => instK xs j (ord.take k) ++ ((L.take 0).filter (fun o => o.Key == (j : Int))).map Op.Value) cur from by
        obtain ⟨cur, h⟩ := HR.out
        exact ⟨cur, (h.keep (Q' := fun b => w.heap.size < b ∧ ¬ (wo.heap.size ≤ b ∧ b < w4.heap.size)) HB4.out.size (HB4.out.block _ h.blk.lt) (fun b hb => HB4.out.block b hb.2) (fun b hb => ⟨hb.1, fun h9 => by have := hb.2; unfold Old at this; omega⟩)).congr (fun j _ => by simp)⟩)
      have hzo : w.heap.size < wo.heap.size := by obtain ⟨cur, h⟩ := HR.out; exact h.blk.lt
      go_loopw [9, 24] (fun _ i wr => ∃ l : Nat, l ≤ L.length ∧ i = .int .i64 l ∧ Hid (∃ cur, RowsO wr w.heap.size (fun b => w.heap.size < b ∧ ¬ (wo.heap.size ≤ b ∧ b < w4.heap.size)) (fun j => instK xs j (ord.take k) ++ ((L.take l).filter (fun o => o.Key == (j : Int))).map Op.Value) cur) ∧ Hid (Only (fun b => w.heap.size ≤ b ∧ ¬ (wo.heap.size ≤ b ∧ b < w4.heap.size)) w4 wr)) (fun _ i _ => L.length - (intOf i).toNat)
      case atStart => exact ⟨0, Nat.zero_le _, rfl, HRs.out, Only.refl _ _⟩
      case round =>
        obtain ⟨l, hl2, rfl, hR, hO⟩ := hrel
        have HRr := hide hR.out; have HOw := hide hO.out
        clear hR hO HRs
        by_cases hlt2 : l < L.length
        · have hR5 := HR4.out.mono (w' := wr) (S' := Old wr) (fun b h => Nat.lt_of_lt_of_le h.2 HOw.out.size) (fun b h => HOw.out.block b h.2 (fun h9 => h9.2 h))
          obtain ⟨b4, off4, hA4, hbS4, x0, x1, x2⟩ := at_Op hR5 (Below.refl _ _) hlt2
          subst hA4
          have hp := opOk_parts (HRok.out _ (List.getElem_mem hlt2))
          obtain ⟨kd, ky, vl, hoe⟩ : ∃ kd ky vl, L[l] = ⟨kd, ky, vl⟩ := ⟨_, _, _, rfl⟩
          rw [hoe] at x0 x1 x2 hp
          dsimp only at x0 x1 x2 hp
          obtain ⟨_, hky, _, _, _⟩ := hp
          obtain ⟨kk, rfl, hkk⟩ : ∃ kk : Nat, ky = (kk : Int) ∧ kk < 3 := ⟨ky.toNat, by omega, by omega⟩
          have HSn := hide (fun j => filter_snoc L l hlt2 j kk kd vl hoe)
          clear hoe hR5 hky
          have hkk3 : (kk : Int) < 3 := by omega
          obtain ⟨cur, hRO⟩ := HRr.out
          have hcs : kk < cur.size := by have := hRO.size; omega
          obtain ⟨hOv, hOo⟩ := hRO.own kk _ hkk (Array.getElem?_eq_getElem hcs)
          obtain ⟨A1, c1, hve, h11, h12, -⟩ := hOv.sl
          have hln : (instK xs kk (ord.take k) ++ ((L.take l).filter (fun o => o.Key == (kk : Int))).map Op.Value).length ≤ 1048576 := by
            have h1 := instK_len xs kk (ord.take k)
            have h2 : ((L.take l).filter (fun o => o.Key == (kk : Int))).length ≤ l := Nat.le_trans (List.length_filter_le _ _) (by rw [List.length_take]; omega)
            rw [List.length_append, List.length_map]
            rw [List.length_take] at h1
            omega
          generalize hys : instK xs kk (ord.take k) ++ ((L.take l).filter (fun o => o.Key == (kk : Int))).map Op.Value = ys at hOv hve h11 hln
          have hv0 : cur[kk]? = some (.slice A1 ys.length c1) := by rw [Array.getElem?_eq_getElem hcs, hve]
          rw [hve] at hOv hOo
          have HRO := hide hRO; have HOv := hide hOv; have HOo := hide hOo; have HYs := hide hys; have Hv0 := hide hv0
          have Hln := hide hln
          clear hRO hOv hOo hys hve hcs hv0 hln
          have hrl := HRO.out.blk.lt
          go_upto_region 8 with (fail)
          generalize hW : World.alloc _ _ = W
          have hsW : W.heap.size = wr.heap.size + 1 := by rw [← hW]; simp
          have HXW := hide (show Blk W wr.heap.size 73 #[.int .i64 kd, .int .i64 kk, .int .i64 vl] by rw [← hW]; exact Blk.new wr _ _)
          have HBW := hide (show Below wr.heap.size wr W by rw [← hW]; exact (Below.refl _ wr).alloc (Nat.le_refl _) _)
          have HRW := hide (HRO.out.keep (w' := W) (Q' := fun b => w.heap.size < b ∧ ¬ (wo.heap.size ≤ b ∧ b < w4.heap.size)) HBW.out.size (HBW.out.block _ hrl) (fun b hb => HBW.out.block b hb.2) (fun b hb => hb.1))
          clear hW HRO HRr
          have y1 := HXW.out.cell 1; have y2 := HXW.out.cell 2
          simp only [List.getElem?_toArray, List.getElem?_cons_zero, List.getElem?_cons_succ] at y1 y2
          have r0 := (HRW.out.blk.cell kk).trans Hv0.out
          have r1 := HRW.out.blk.frozen kk
          have HOd := hide (show Own tInt 3 W.drew (fun b => ((Value.slice A1 ys.length c1).ownBlock = some b ∨ W.heap.size ≤ b) ∧ Old W.drew b) ys (.slice A1 ys.length c1) from
            HOv.out.mono (fun b hb => ⟨.inl hb, by have h9 := (HOo.out b hb).2; have h8 := HBW.out.size; exact Nat.lt_of_lt_of_le h9 h8⟩) (fun b hb => HBW.out.block b (HOo.out b hb).2))
          have hxz := HXW.out.lt
          have hrz := HRW.out.blk.lt
          have hHO : ∀ V, Only (fun b => (Value.slice A1 ys.length c1).ownBlock = some b ∨ W.heap.size ≤ b) W.drew V → V.heap[wr.heap.size]? = W.heap[wr.heap.size]? ∧ V.heap[w.heap.size]? = W.heap[w.heap.size]? := fun V hV =>
            ⟨hV.block _ hxz (fun h9 => by
              rcases h9 with h9 | h9
              · have := (HOo.out _ h9).2; unfold Old at this; omega
              · omega), hV.block _ hrz (fun h9 => by
              rcases h9 with h9 | h9
              · have := (HOo.out _ h9).1.1; omega
              · omega)⟩
          have hC1 : ∀ V, Only (fun b => (Value.slice A1 ys.length c1).ownBlock = some b ∨ W.heap.size ≤ b) W.drew V → V.cell? ⟨wr.heap.size, 1, none⟩ = some (.int .i64 kk) := fun V hV => (World.cell?_of_block (hHO V hV).1).trans y1
          have hC2 : ∀ V, Only (fun b => (Value.slice A1 ys.length c1).ownBlock = some b ∨ W.heap.size ≤ b) W.drew V → V.cell? ⟨wr.heap.size, 2, none⟩ = some (.int .i64 vl) := fun V hV => (World.cell?_of_block (hHO V hV).1).trans y2
          have hC3 : ∀ V, Only (fun b => (Value.slice A1 ys.length c1).ownBlock = some b ∨ W.heap.size ≤ b) W.drew V → V.cell? ⟨w.heap.size, kk, none⟩ = some (.slice A1 ys.length c1) := fun V hV => (World.cell?_of_block (hHO V hV).2).trans r0
          have HC1 := hide hC1; have HC2 := hide hC2; have HC3 := hide hC3; have HHO := hide hHO
          clear hC1 hC2 hC3 hHO y1 y2 r0 r1
          obtain ⟨ob, hob⟩ : ∃ ob, ob = wr.heap.size := ⟨_, rfl⟩
          refine wp_region_facts 13 (fun L V => Hid (Only (fun b => (Value.slice A1 ys.length c1).ownBlock = some b ∨ W.heap.size ≤ b) W.drew V) ∧ (L 11 = false → Hid (∀ b, b < W.heap.size → V.heap[b]? = W.heap[b]?))) (FIn wr.heap.size w.heap.size kk vl A1 ys.length c1 W.heap.size ys (fun b => (Value.slice A1 ys.length c1).ownBlock = some b)) (fun k a b => (k ≠ 10 → k ≠ 11 → b = a) ∧ ∀ p, W.heap.size ≤ p → p < a.heap.size → b.heap[p]? = a.heap[p]?) [some 28, some 29, some 30, some 31, some 32, some 33, some 34, some 35, some 36, some 37, some 38, some 39, some 40] (by kernel_rfl) (by kernel_rfl) (by kernel_rfl) (by kernel_rfl) ?_ ?_ ?_ ?_
          · exact ⟨Only.refl _ _, fun _ _ _ => rfl⟩
          · intro i k va wa wb hi hk hn hF hE
            refine hF.ev (fun h11 => ?_) hE.2
            subst h11
            exact hE.1 (fun e => by subst e; exact absurd hn (by rw [show needB _ _ _ _ = true by kernel_rfl]; simp)) (fun e => by subst e; exact absurd hn (by rw [show needB _ _ _ _ = true by kernel_rfl]; simp))
          · intro i o hi ho a wa L hL hJ hc hd K hK
            have hi' : i = 0 ∨ i = 1 ∨ i = 2 ∨ i = 3 ∨ i = 4 ∨ i = 5 ∨ i = 6 ∨ i = 7 ∨ i = 8 ∨ i = 9 ∨ i = 10 ∨ i = 11 ∨ i = 12 := by omega
            clear hi
            have d1 := HC1.out wa hJ.1.out; have d2 := HC2.out wa hJ.1.out; have d3 := HC3.out wa hJ.1.out
            rcases hi' with rfl | rfl | rfl | rfl | rfl | rfl | rfl | rfl | rfl | rfl | rfl | rfl | rfl
            all_goals
              simp only [List.getElem?_toArray, List.getElem?_cons_zero, List.getElem?_cons_succ, Option.some.injEq] at ho
              subst ho
              simp only [reduceCtorEq, if_false] at hK
            · have e5 := (hc 5 (by kernel_rfl)).trans rfl
              go_simp
              exact hK _ _ rfl (by simpa using hJ) ⟨fun _ _ => rfl, fun _ _ _ => rfl⟩
            · have e9 := (hc 9 (by kernel_rfl)).trans rfl
              go_simp
              exact hK _ _ rfl (by simpa using hJ) ⟨fun _ _ => rfl, fun _ _ _ => rfl⟩
            · have e29 : a.tmps.getD 29 undef = .pointer (some ⟨wr.heap.size, 1, none⟩) := hd 1 29 (by kernel_rfl)
              go_simp
              exact hK _ _ rfl (by simpa using hJ) ⟨fun _ _ => rfl, fun _ _ _ => rfl⟩
            · have e5 := (hc 5 (by kernel_rfl)).trans rfl
              go_simp
              exact hK _ _ rfl (by simpa using hJ) ⟨fun _ _ => rfl, fun _ _ _ => rfl⟩
            · have e9 := (hc 9 (by kernel_rfl)).trans rfl
              go_simp
              exact hK _ _ rfl (by simpa using hJ) ⟨fun _ _ => rfl, fun _ _ _ => rfl⟩
            · have e32 : a.tmps.getD 32 undef = .pointer (some ⟨wr.heap.size, 1, none⟩) := hd 4 32 (by kernel_rfl)
              go_simp
              exact hK _ _ rfl (by simpa using hJ) ⟨fun _ _ => rfl, fun _ _ _ => rfl⟩
            · have e31 : a.tmps.getD 31 undef = .slice (some ⟨w.heap.size, 0, none⟩) 3 3 := hd 3 31 (by kernel_rfl)
              have e33 : a.tmps.getD 33 undef = .int .i64 kk := hd 5 33 (by kernel_rfl)
              go_simp
              exact hK _ _ rfl (by simpa using hJ) ⟨fun _ _ => rfl, fun _ _ _ => rfl⟩
            · have e34 : a.tmps.getD 34 undef = .pointer (some ⟨w.heap.size, kk, none⟩) := hd 6 34 (by kernel_rfl)
              go_simp
              exact hK _ _ rfl (by simpa using hJ) ⟨fun _ _ => rfl, fun _ _ _ => rfl⟩
            · have e9 := (hc 9 (by kernel_rfl)).trans rfl
              go_simp
              exact hK _ _ rfl (by simpa using hJ) ⟨fun _ _ => rfl, fun _ _ _ => rfl⟩
            · have e36 : a.tmps.getD 36 undef = .pointer (some ⟨wr.heap.size, 2, none⟩) := hd 8 36 (by kernel_rfl)
              go_simp
              exact hK _ _ rfl (by simpa using hJ) ⟨fun _ _ => rfl, fun _ _ _ => rfl⟩
            · have e37 : a.tmps.getD 37 undef = .int .i64 vl := hd 9 37 (by kernel_rfl)
              rw [Array.getD_eq_getD_getElem?] at e37
              have hsz := hJ.1.out.size
              go_simp
              refine hK _ _ ⟨wa.heap.size, rfl, hsz, Blk.new _ _ _⟩ ⟨hJ.1.out.trans (Only.of_alloc _ _), fun h b hb => ?_⟩ ⟨fun h => absurd rfl h, fun p _ hp => Below.heap_alloc _ _ _ hp⟩
              exact (Below.heap_alloc _ _ _ (Nat.lt_of_lt_of_le hb hsz)).trans ((hJ.2 (by simpa using h)).out b hb)
            · have e35 : a.tmps.getD 35 undef = .slice A1 ys.length c1 := hd 7 35 (by kernel_rfl)
              obtain ⟨p, e38, hp0, hp1⟩ : ∃ p, a.tmps.getD 38 undef = .slice (some ⟨p, 0, none⟩) 1 1 ∧ W.heap.size ≤ p ∧ Blk wa p 3 #[.int .i64 vl] := hd 10 38 (by kernel_rfl)
              have hsz := hJ.1.out.size
              have hsz2 : W.heap.size ≤ wa.heap.size := hsz
              have hbk := (hJ.2 hL).out
              refine wp_cat tInt (.tmp 35) (.tmp 38) 30 rfl 3 i0 _ 8 Tryz.underlying30 hi_ hz0 hz1 hz2 rfl (by decide) (fun b => (Value.slice A1 ys.length c1).ownBlock = some b ∨ wa.heap.size ≤ b) (fun _ => False) ys [vl] _ e35
                (HOd.out.mono (w' := wa) (S2 := fun b => ((Value.slice A1 ys.length c1).ownBlock = some b ∨ wa.heap.size ≤ b) ∧ Old wa b) (fun b hb => ?_) (fun b hb => ?_)) _ 1 1 e38 rfl (rowOne_ hp1) (fun _ h => h.elim) (fun b hb => .inr hb) (by have := Hln.out; simp only [maxLen, List.length_singleton]; omega) (by have := Hln.out; simp only [List.length_singleton]; omega) ?_
              · rcases hb.1 with h9 | h9
                · exact ⟨.inl h9, by have := hb.2; unfold Old at this ⊢; exact Nat.lt_of_lt_of_le this hsz⟩
                · have := hb.2; unfold Old at this; exact absurd this (by show ¬ b < W.heap.size; omega)
              · exact hbk b hb.2
              · intro v' w' hO_ hK_
                refine hK v' w' (hO_.mono (fun b hb => ⟨?_, hb.2⟩) (fun _ _ => rfl)) ⟨hJ.1.out.trans (hK_.mono (fun b hb => ?_)), fun h => by simp at h⟩ ⟨fun _ h => absurd rfl h, fun q hq0 hq1 => hK_.block q hq1 (fun h9 => ?_)⟩
                · rcases hb.1 with h9 | h9
                  · exact .inl h9
                  · exact .inr (by omega)
                · rcases hb with h9 | h9
                  · exact .inl h9
                  · exact .inr (by omega)
                · rcases h9 with h9 | h9
                  · have h8 := (HOo.out _ h9).2; unfold Old at h8; omega
                  · omega
            · have e28 : a.tmps.getD 28 undef = .slice (some ⟨w.heap.size, 0, none⟩) 3 3 := hd 0 28 (by kernel_rfl)
              have e30 : a.tmps.getD 30 undef = .int .i64 kk := hd 2 30 (by kernel_rfl)
              go_simp
              exact hK _ _ rfl (by simpa using hJ) ⟨fun _ _ => rfl, fun _ _ _ => rfl⟩
          · intro vs w8 L hL hJ hF
            have hO8 : Own tInt 3 w8 (fun b => ((Value.slice A1 ys.length c1).ownBlock = some b ∨ W.heap.size ≤ b) ∧ Old w8 b) (ys ++ [vl]) (vs 11) := hF 11 (by decide)
            have f12 : vs 12 = .pointer (some ⟨w.heap.size, kk, none⟩) := hF 12 (by decide)
            simp only [putD, Act.put, List.setIfInBounds_toArray, List.set_cons_zero, List.set_cons_succ]
            rw [f12]
            have HK8 := hide hJ.1.out
            generalize vs 11 = u2 at hO8 ⊢
            obtain ⟨A8, c8, h2e, -⟩ := hO8.sl
            obtain ⟨n2, hn2⟩ : ∃ n, n = (ys ++ [vl]).length := ⟨_, rfl⟩
            rw [← hn2] at h2e
            subst h2e
            have HO8 := hide hO8
            have HStep := hide (HRW.out.step hkk Hv0.out (fun b hb => hb.1) (fun b hb => ⟨by omega, fun h9 => by have := HOw.out.size; omega⟩) (v' := .slice A8 n2 c8) (x := vl) (w2 := w8) (by rw [HYs.out]; exact HO8.out) ⟨HK8.out.os, HK8.out.tape, HK8.out.output, HK8.out.size, HK8.out.block⟩)
            have hR8 := HRW.out.blk.of (HHO.out w8 HK8.out).2
            have r08 := (hR8.cell kk).trans Hv0.out; have r18 := hR8.frozen kk
            clear hn2 hO8 hR8
            generalize vs 0 = v0; generalize vs 1 = v1; generalize vs 2 = v2; generalize vs 3 = v3; generalize vs 4 = v4; generalize vs 5 = v5; generalize vs 6 = v6; generalize vs 7 = v7; generalize vs 8 = v8; generalize vs 9 = v9; generalize vs 10 = v10
            clear hJ hF hL f12
            have HOn := hide ((HOw.out.trans (Only.of_below HBW.out)).trans (((⟨HK8.out.os, HK8.out.tape, HK8.out.output, HK8.out.size, HK8.out.block⟩ : Only (fun b => (Value.slice A1 ys.length c1).ownBlock = some b ∨ W.heap.size ≤ b) W w8).mono (S' := fun b => w.heap.size ≤ b ∧ ¬ (wo.heap.size ≤ b ∧ b < w4.heap.size)) (fun b hb => by
              rcases hb with h9 | h9
              · have := (HOo.out _ h9).1; exact ⟨by omega, this.2⟩
              · exact ⟨by omega, fun h9 => by have := HOw.out.size; omega⟩)) : Only _ W w8))
            go_wp2_with fail
            go_roundw
            case rel => exact ⟨l + 1, by omega, by go_num, ⟨_, HStep.out.congr (fun j hj => by
                have h9 := HSn.out j
                rw [h9]
                by_cases hjk : j = kk
                · simp [hjk]
                · simp [hjk])⟩, HOn.out.setCell (p := ⟨w.heap.size, kk, none⟩) ⟨Nat.le_refl _, fun h9 => by have h8 : wo.heap.size ≤ w.heap.size := h9.1; omega⟩ _⟩
            case measure => simp [intOf]; omega
        · obtain rfl : l = L.length := by omega
          have HRk := hide (show ∃ cur, RowsO wr w.heap.size (fun b => w.heap.size < b) (fun j => instK xs j (ord.take (k + 1))) cur from by
            obtain ⟨cur, h⟩ := HRr.out
            exact ⟨cur, (h.keep (Q' := fun b => w.heap.size < b) (Nat.le_refl _) rfl (fun _ _ => rfl) (fun b hb => hb.1.1)).congr (fun j hj => by rw [HTk.out j, List.take_length, HFi.out j hj])⟩)
          have HBk := hide (below_only (HB.out.trans (HB4.out.mono HB.out.size)) HOw.out (Nat.le_trans HB.out.size HB4.out.size) (fun i hi => hi.1))
          go_wp2_with fail
          go_roundw
          case rel => exact ⟨k + 1, by omega, by go_num, HRk.out, HBk.out⟩
          case measure => simp [intOf]; omega
    · obtain rfl : k = ord.length := by omega
      obtain ⟨wo, hwo⟩ : ∃ wo : World, wo = wr := ⟨_, rfl⟩
      rw [← hwo] at HR HB ⊢
      clear hwo
      have hHS : ∃ gs cur, RowsH wo w.heap.size (fun j => instK xs j ord) gs cur ∧ ∀ i j : Nat, i < 3 → j < 3 → i ≠ j → 0 < (instK xs (i : Int) ord).length → 0 < (instK xs (j : Int) ord).length → gs i ≠ gs j := by
        obtain ⟨cur, h⟩ := HR.out
        rw [List.take_length] at h
        obtain ⟨gs, h1, h2⟩ := h.rowsH (fun b hb => hb)
        exact ⟨gs, cur, h1, h2⟩
      obtain ⟨gs, cur0, hRH, hfar⟩ := hHS
      have HRH := hide hRH; have HFar := hide hfar
      clear hRH hfar HR
      go_wp2_with fail
      go_loopw [10, 45] (fun _ i wr => ∃ j : Nat, j ≤ 3 ∧ i = .int .i64 j ∧ Hid (∃ cur, RowsH wr w.heap.size (fun j => instK xs j ord) gs cur) ∧ Hid (Below w.heap.size w wr)) (fun _ i _ => 3 - (intOf i).toNat)
      case atStart => exact ⟨0, by omega, rfl, ⟨cur0, HRH.out⟩, HB.out⟩
      case round =>
        obtain ⟨j, hj, rfl, hR, hb⟩ := hrel
        clear HRH HB
        by_cases hlt2 : j < 3
        · obtain ⟨cur, h⟩ := hR.out
          obtain ⟨A2, c2, hcc, hH⟩ := h.own j hlt2
          obtain ⟨A3, c3, hv3, h31, h32, -⟩ := hH.sl
          injection hv3 with e1 e2 e3
          subst e1; subst e3
          have d0 := (h.blk.cell j).trans hcc
          have d1 := h.blk.frozen j
          have HH := hide h; have HCc := hide hcc; have HB := hide hb.out
          have hj3 : (j : Int) < 3 := by omega
          have hrl := h.blk.lt
          clear h hcc hH hR hb
          generalize hn : (instK xs j ord).length = n at d0 h31
          have HN2 := hide hn
          clear hn
          have HClip := hide (clip_Int_ n A2 c2 wr h31 h32)
          go_wp2_with (go_at_call 91; refine HClip.out.mono ?_; rintro e w' ⟨rfl, rfl⟩)
          go_roundw
          case rel => exact ⟨j + 1, by omega, by go_num, ⟨_, by have h9 := HH.out.clip hlt2 HCc.out; (try dsimp only at h9); rw [HN2.out] at h9; exact h9⟩, HB.out.setCell (by show w.heap.size ≤ w.heap.size; omega) _⟩
          case measure => simp [intOf]; omega
        · obtain rfl : j = 3 := by omega
          have HB := hide hb.out
          have HF := hide (show HoldS wr (New w wr) (instR xs ord) (.slice (some ⟨w.heap.size, 0, none⟩) 3 3) by
            obtain ⟨cur, h⟩ := hR.out
            exact h.holdS (w0 := w) (Nat.le_refl _) HFar.out)
          clear hR hb
          go_wp2_with fail
          go_ret
          exact ⟨_, rfl, HF.out, HB.out⟩
theorem HoldS.nil {w : World} {S : Nat → Prop} : HoldS w S [] (.slice none 0 0) := ⟨[], 0, rfl, Hold.nil 0, List.Pairwise.nil⟩
end Go.Proofs.YtkcobaimcfggjaaGreatDoor
