/- The search that goes out by layers, as lists; what it finds. No program in sight. -/
import Derived.Test.YtnlicjgegclilaaDoorWays
namespace Go.Proofs.YtnlicjgegclilaaDoor
open Go.RowKit

def bStep (E : Nat → Nat → Bool) (a : Nat) (st : List Int × List Int) (i : Nat) : List Int × List Int :=
  if E i a = true ∧ st.1.getD i 0 < 0 then (st.1.set i (st.1.getD a 0 + 1), st.2 ++ [(i : Int)]) else st
def bRow (E : Nat → Nat → Bool) (a : Nat) (st : List Int × List Int) (n : Nat) : List Int × List Int := (List.range n).foldl (bStep E a) st
theorem bRow_succ (E : Nat → Nat → Bool) (a : Nat) (st : List Int × List Int) (n : Nat) : bRow E a st (n + 1) = bStep E a (bRow E a st n) n := by
  unfold bRow; rw [List.range_succ, List.foldl_append]; rfl
def b0Step (E : Nat → Nat → Bool) (s : Nat) (st : List Int × List Int) (i : Nat) : List Int × List Int :=
  if E i s = true then (st.1.set i 1, st.2 ++ [(i : Int)]) else st
def b0 (E : Nat → Nat → Bool) (s n : Nat) : List Int × List Int := (List.range n).foldl (b0Step E s) (List.replicate 6 (-1), [])
theorem b0_succ (E : Nat → Nat → Bool) (s n : Nat) : b0 E s (n + 1) = b0Step E s (b0 E s n) n := by
  unfold b0; rw [List.range_succ, List.foldl_append]; rfl
theorem getD_set6 {F : List Int} {i : Nat} (hi : i < F.length) (v : Int) (n : Nat) : (F.set i v).getD n 0 = if n = i then v else F.getD n 0 := by
  simp only [List.getD_eq_getElem?_getD, List.getElem?_set]
  by_cases h : n = i
  · subst h; simp [hi]
  · rw [if_neg h, if_neg (fun e => h e.symm)]
def unf (F : List Int) : Nat := F.countP (fun v => decide (v < 0))
theorem unf_set {F : List Int} : ∀ {i : Nat} {v : Int}, i < F.length → F.getD i 0 < 0 → 0 ≤ v → unf (F.set i v) + 1 = unf F := by
  induction F with
  | nil => intro i v h; simp at h
  | cons x F ih =>
    intro i v hi hx hv
    cases i with
    | zero =>
      have hx : x < 0 := by simpa using hx
      unfold unf
      simp only [List.set_cons_zero, List.countP_cons]
      simp [hx, show ¬ v < 0 by omega]
    | succ i =>
      have := ih (i := i) (v := v) (by simpa using hi) (by simpa using hx) hv
      unfold unf at this ⊢
      simp only [List.set_cons_succ, List.countP_cons]
      omega
/-- What is known while the numbers of one layer wait. -/
structure Bfs (E : Nat → Nat → Bool) (s : Nat) (st : List Int × List Int) (d : Nat) : Prop where
  len : st.1.length = 6
  val : ∀ n, n < 6 → st.1.getD n 0 = -1 ∨ ∃ l : Nat, st.1.getD n 0 = (l : Int) ∧ Sh1 E s n l
  low : ∀ n, n < 6 → ∀ l, l ≤ d → Sh1 E s n l → 0 ≤ st.1.getD n 0
  qd : ∃ q1 q2 : List Nat, st.2 = (q1 ++ q2).map (fun n : Nat => (n : Int)) ∧ (∀ n ∈ q1, n < 6 ∧ st.1.getD n 0 = (d : Int)) ∧ ∀ n ∈ q2, n < 6 ∧ st.1.getD n 0 = (d : Int) + 1
  exp : ∀ n, n < 6 → 0 ≤ st.1.getD n 0 → (n : Int) ∉ st.2 → ∀ i, i < 6 → E i n = true → 0 ≤ st.1.getD i 0
/-- The same while number a is looked at, whose first i have been seen. -/
structure BfsR (E : Nat → Nat → Bool) (s : Nat) (st : List Int × List Int) (d a i : Nat) : Prop where
  len : st.1.length = 6
  val : ∀ n, n < 6 → st.1.getD n 0 = -1 ∨ ∃ l : Nat, st.1.getD n 0 = (l : Int) ∧ Sh1 E s n l
  low : ∀ n, n < 6 → ∀ l, l ≤ d → Sh1 E s n l → 0 ≤ st.1.getD n 0
  qd : ∃ q1 q2 : List Nat, st.2 = (q1 ++ q2).map (fun n : Nat => (n : Int)) ∧ (∀ n ∈ q1, n < 6 ∧ st.1.getD n 0 = (d : Int)) ∧ ∀ n ∈ q2, n < 6 ∧ st.1.getD n 0 = (d : Int) + 1
  exp : ∀ n, n < 6 → n ≠ a → 0 ≤ st.1.getD n 0 → (n : Int) ∉ st.2 → ∀ i, i < 6 → E i n = true → 0 ≤ st.1.getD i 0
  cur : st.1.getD a 0 = (d : Int)
  ha : a < 6
  seen : ∀ j, j < i → E j a = true → 0 ≤ st.1.getD j 0
section
variable {E : Nat → Nat → Bool} {s : Nat}
theorem BfsR.next {st : List Int × List Int} {d a i : Nat} (h : BfsR E s st d a i) (hi : i < 6) : BfsR E s (bStep E a st i) d a (i + 1) := by
  unfold bStep
  by_cases hc : E i a = true ∧ st.1.getD i 0 < 0
  · rw [if_pos hc]
    have hlt : i < st.1.length := by rw [h.len]; exact hi
    have hia : i ≠ a := fun e => by
      subst e
      have := h.cur
      omega
    have hd : Sh1 E s a d := by
      rcases h.val a h.ha with h1 | ⟨l, h1, h2⟩
      · have := h.cur; omega
      · have : l = d := by have := h.cur; omega
        rw [← this]; exact h2
    have hnew : Sh1 E s i (d + 1) := ⟨by omega, ⟨a, hc.1, hd.2.1⟩, fun l' h1 h2 hw => by
      obtain ⟨m, rfl⟩ : ∃ m, l' = m + 1 := ⟨l' - 1, by omega⟩
      obtain ⟨l2, h3, h4⟩ := hw.sh1
      have := h.low i hi l2 (by omega) h4
      omega⟩
    have hgr : ∀ n, 0 ≤ st.1.getD n 0 → (st.1.set i (st.1.getD a 0 + 1)).getD n 0 = st.1.getD n 0 := fun n hn => by
      rw [getD_set6 hlt, if_neg (fun e => by subst e; omega)]
    have hle : ∀ n, 0 ≤ st.1.getD n 0 → 0 ≤ (st.1.set i (st.1.getD a 0 + 1)).getD n 0 := fun n hn => by rw [hgr n hn]; exact hn
    have hni : (st.1.set i (st.1.getD a 0 + 1)).getD i 0 = (d : Int) + 1 := by rw [getD_set6 hlt, if_pos rfl, h.cur]
    refine ⟨by simpa using h.len, fun n hn => ?_, fun n hn l hl hsh => hle n (h.low n hn l hl hsh), ?_, fun n hn hna h0 hq j hj hE => ?_, by rw [hgr a (by have := h.cur; omega)]; exact h.cur, h.ha, fun j hj hE => ?_⟩
    · by_cases hni' : n = i
      · subst hni'
        exact .inr ⟨d + 1, by simp only; rw [hni]; omega, hnew⟩
      · have : (st.1.set i (st.1.getD a 0 + 1)).getD n 0 = st.1.getD n 0 := by rw [getD_set6 hlt, if_neg hni']
        simp only
        rw [this]
        exact h.val n hn
    · obtain ⟨q1, q2, h1, h2, h3⟩ := h.qd
      refine ⟨q1, q2 ++ [i], by simp [h1], fun n hn => ⟨(h2 n hn).1, ?_⟩, fun n hn => ?_⟩
      · simp only
        rw [hgr n (by have := (h2 n hn).2; omega)]; exact (h2 n hn).2
      · rcases List.mem_append.1 hn with hn | hn
        · refine ⟨(h3 n hn).1, ?_⟩
          simp only
          rw [hgr n (by have := (h3 n hn).2; omega)]; exact (h3 n hn).2
        · simp at hn
          subst hn
          exact ⟨hi, hni⟩
    · have hq' : (n : Int) ∉ st.2 := fun hm => hq (List.mem_append_left _ hm)
      have hne : n ≠ i := fun e => by
        subst e
        exact hq (by simp)
      have h0' : 0 ≤ st.1.getD n 0 := by
        have : (st.1.set i (st.1.getD a 0 + 1)).getD n 0 = st.1.getD n 0 := by rw [getD_set6 hlt, if_neg hne]
        simp only at h0
        omega
      exact hle j (h.exp n hn hna h0' hq' j hj hE)
    · by_cases hji : j = i
      · subst hji; simp only; rw [hni]; omega
      · exact hle j (h.seen j (by omega) hE)
  · rw [if_neg hc]
    refine ⟨h.len, h.val, h.low, h.qd, h.exp, h.cur, h.ha, fun j hj hE => ?_⟩
    by_cases hji : j = i
    · subst hji
      rcases Int.lt_or_le (st.1.getD j 0) 0 with h1 | h1
      · exact absurd ⟨hE, h1⟩ hc
      · exact h1
    · exact h.seen j (by omega) hE
theorem BfsR.row {st : List Int × List Int} {d a : Nat} (h : BfsR E s st d a 0) : ∀ n, n ≤ 6 → BfsR E s (bRow E a st n) d a n
  | 0, _ => h
  | n + 1, hn => by rw [bRow_succ]; exact (BfsR.row h n (by omega)).next (by omega)
theorem BfsR.done {st : List Int × List Int} {d a : Nat} (h : BfsR E s st d a 6) : Bfs E s st d :=
  ⟨h.len, h.val, h.low, h.qd, fun n hn h0 hq i hi hE => by
    by_cases hna : n = a
    · subst hna; exact h.seen i hi hE
    · exact h.exp n hn hna h0 hq i hi hE⟩
theorem Bfs.layer {st : List Int × List Int} {d : Nat} (hE : ∀ i j, E i j = true → i < 6 ∧ j < 6) (hd : 1 ≤ d) (h : Bfs E s st d) (hq : ∀ n : Nat, (n : Int) ∈ st.2 → st.1.getD n 0 ≠ (d : Int)) : ∀ n, n < 6 → ∀ l, l ≤ d + 1 → Sh1 E s n l → 0 ≤ st.1.getD n 0 := by
  intro n hn l hl hsh
  by_cases hld : l ≤ d
  · exact h.low n hn l hld hsh
  · obtain rfl : l = d + 1 := by omega
    obtain ⟨m, hm, hms⟩ := hsh.next
    obtain ⟨c, rfl⟩ : ∃ c, d = c + 1 := ⟨d - 1, by omega⟩
    have hm6 := (hE n m hm).2
    have h0 := h.low m hm6 (c + 1) (Nat.le_refl _) hms.sh1
    have hmd : st.1.getD m 0 = ((c + 1 : Nat) : Int) := by
      rcases h.val m hm6 with h1 | ⟨l', h1, h2⟩
      · omega
      · rw [h1, h2.uniq hms.sh1]
    exact h.exp m hm6 h0 (fun hmem => hq m hmem hmd) n hn hm
/-- The first that waits. -/
theorem Bfs.pop {st : List Int × List Int} {d : Nat} (hE : ∀ i j, E i j = true → i < 6 ∧ j < 6) (hd : 1 ≤ d) (h : Bfs E s st d) (hq : 0 < st.2.length) :
    ∃ (a : Nat) (q : List Int) (d' : Nat), st.2 = (a : Int) :: q ∧ a < 6 ∧ 1 ≤ d' ∧ BfsR E s (st.1, q) d' a 0 := by
  obtain ⟨q1, q2, h1, h2, h3⟩ := h.qd
  cases q1 with
  | cons a q1 =>
    have ha := h2 a (by simp)
    refine ⟨a, (q1 ++ q2).map (fun n : Nat => (n : Int)), d, by simpa using h1, ha.1, hd, ⟨h.len, h.val, h.low, ⟨q1, q2, rfl, fun n hn => h2 n (by simp [hn]), h3⟩, fun n hn hna h0 hnq i hi hE' => ?_, ha.2, ha.1, fun j hj => absurd hj (by omega)⟩⟩
    refine h.exp n hn h0 (fun hmem => hnq ?_) i hi hE'
    rw [h1] at hmem
    simp only [List.cons_append, List.map_cons, List.mem_cons] at hmem
    rcases hmem with hm | hm
    · exact absurd (by omega) hna
    · exact hm
  | nil =>
    cases q2 with
    | nil => rw [h1] at hq; simp at hq
    | cons a q2 =>
      have ha := h3 a (by simp)
      have hlow := h.layer hE hd (fun n hn he => by
        rw [h1] at hn
        simp only [List.nil_append, List.mem_map] at hn
        obtain ⟨m, hm, hmn⟩ := hn
        have := (h3 m hm).2
        obtain rfl : m = n := by omega
        omega)
      refine ⟨a, q2.map (fun n : Nat => (n : Int)), d + 1, by simpa using h1, ha.1, by omega, ⟨h.len, h.val, hlow, ⟨q2, [], by simp, fun n hn => ⟨(h3 n (by simp [hn])).1, by have := (h3 n (by simp [hn])).2; simp only; omega⟩, fun n hn => absurd hn (by simp)⟩, fun n hn hna h0 hnq i hi hE' => ?_, by have := ha.2; simp only; omega, ha.1, fun j hj => absurd hj (by omega)⟩⟩
      refine h.exp n hn h0 (fun hmem => hnq ?_) i hi hE'
      rw [h1] at hmem
      simp only [List.nil_append, List.map_cons, List.mem_cons] at hmem
      rcases hmem with hm | hm
      · exact absurd (by omega) hna
      · exact hm
/-- No one waits: all have been found. -/
theorem Bfs.all {st : List Int × List Int} {d : Nat} (hE : ∀ i j, E i j = true → i < 6 ∧ j < 6) (hd : 1 ≤ d) (h : Bfs E s st d) (hq : st.2 = []) : ∀ n, n < 6 → ∀ l, Sh1 E s n l → st.1.getD n 0 = (l : Int) := by
  have H : ∀ k, Bfs E s st (d + k) := fun k => by
    induction k with
    | zero => exact h
    | succ k ih => exact ⟨ih.len, ih.val, Bfs.layer hE (show 1 ≤ d + k by omega) ih (fun n hn => by rw [hq] at hn; cases hn), ⟨[], [], by simpa using hq, fun _ h => absurd h (by simp), fun _ h => absurd h (by simp)⟩, ih.exp⟩
  intro n hn l hsh
  have h0 := (H l).low n hn l (by omega) hsh
  rcases h.val n hn with h1 | ⟨l', h1, h2⟩
  · omega
  · rw [h1, h2.uniq hsh]
/-- What the search begins with. -/
structure Bfs0 (E : Nat → Nat → Bool) (s : Nat) (st : List Int × List Int) (i : Nat) : Prop where
  len : st.1.length = 6
  val : ∀ n, n < 6 → st.1.getD n 0 = if n < i ∧ E n s = true then 1 else -1
  qd : ∃ q : List Nat, st.2 = q.map (fun n : Nat => (n : Int)) ∧ ∀ n, n ∈ q ↔ n < i ∧ E n s = true
theorem bfs0 : ∀ i, i ≤ 6 → Bfs0 E s (b0 E s i) i
  | 0, _ => ⟨by simp [b0], fun n hn => by
      unfold b0
      simp only [List.range_zero, List.foldl_nil, List.getD_eq_getElem?_getD, List.getElem?_replicate, if_pos hn]
      simp, ⟨[], by simp [b0], fun n => by simp⟩⟩
  | i + 1, hi => by
    have h := bfs0 i (by omega)
    rw [b0_succ]
    unfold b0Step
    by_cases hc : E i s = true
    · rw [if_pos hc]
      refine ⟨by simpa using h.len, fun n hn => ?_, ?_⟩
      · simp only
        rw [getD_set6 (by rw [h.len]; omega), h.val n hn]
        by_cases hni : n = i
        · subst hni; simp [hc]
        · rw [if_neg hni]
          have : (n < i ∧ E n s = true) ↔ (n < i + 1 ∧ E n s = true) := ⟨fun h => ⟨by omega, h.2⟩, fun h => ⟨by omega, h.2⟩⟩
          simp only [this]
      · obtain ⟨q, h1, h2⟩ := h.qd
        refine ⟨q ++ [i], by simp [h1], fun n => ?_⟩
        rw [List.mem_append, h2]
        simp only [List.mem_singleton]
        constructor
        · rintro (h | rfl)
          · exact ⟨by omega, h.2⟩
          · exact ⟨by omega, hc⟩
        · intro h
          by_cases hni : n = i
          · exact .inr hni
          · exact .inl ⟨by omega, h.2⟩
    · rw [if_neg hc]
      refine ⟨h.len, fun n hn => ?_, ?_⟩
      · rw [h.val n hn]
        have : (n < i ∧ E n s = true) ↔ (n < i + 1 ∧ E n s = true) := ⟨fun h => ⟨by omega, h.2⟩, fun h => ⟨by
          rcases Nat.lt_or_ge n i with h1 | h1
          · exact h1
          · obtain rfl : n = i := by omega
            exact absurd h.2 hc, h.2⟩⟩
        simp only [this]
      · obtain ⟨q, h1, h2⟩ := h.qd
        refine ⟨q, h1, fun n => ?_⟩
        rw [h2]
        exact ⟨fun h => ⟨by omega, h.2⟩, fun h => ⟨by
          rcases Nat.lt_or_ge n i with h1 | h1
          · exact h1
          · obtain rfl : n = i := by omega
            exact absurd h.2 hc, h.2⟩⟩
theorem Bfs0.bfs {st : List Int × List Int} (h : Bfs0 E s st 6) : Bfs E s st 1 := by
  have h1 : ∀ n, E n s = true ↔ Wk E s 1 n := fun n => ⟨fun h => ⟨s, h, rfl⟩, fun ⟨m, h, e⟩ => by
    have : m = s := e
    rwa [this] at h⟩
  have hS : ∀ n, Wk E s 1 n → Sh1 E s n 1 := fun n h => ⟨Nat.le_refl _, h, fun l' a b => by omega⟩
  refine ⟨h.len, fun n hn => ?_, fun n hn l hl hsh => ?_, ?_, fun n hn h0 hq => ?_⟩
  · rw [h.val n hn]
    by_cases hc : E n s = true
    · rw [if_pos ⟨hn, hc⟩]; exact .inr ⟨1, rfl, hS n ((h1 n).1 hc)⟩
    · rw [if_neg (fun h => hc h.2)]; exact .inl rfl
  · rw [h.val n hn]
    obtain rfl : l = 1 := by have := hsh.1; omega
    rw [if_pos ⟨hn, (h1 n).2 hsh.2.1⟩]
    decide
  · obtain ⟨q, h2, h3⟩ := h.qd
    refine ⟨q, [], by simpa using h2, fun n hn => ?_, fun n hn => absurd hn (by simp)⟩
    have := (h3 n).1 hn
    exact ⟨this.1, by rw [h.val n this.1, if_pos this]; rfl⟩
  · exfalso
    rw [h.val n hn] at h0
    by_cases hc : n < 6 ∧ E n s = true
    · obtain ⟨q, h2, h3⟩ := h.qd
      refine hq ?_
      rw [h2]
      exact List.mem_map_of_mem ((h3 n).2 hc)
    · rw [if_neg hc] at h0; omega
end
/-- The numbers that wait and those not yet found: less with each that is looked at. -/
theorem bRow_meas {E : Nat → Nat → Bool} {a : Nat} {st : List Int × List Int} (hl : st.1.length = 6) (ha : 0 ≤ st.1.getD a 0) : ∀ n, n ≤ 6 → (bRow E a st n).2.length + unf (bRow E a st n).1 = st.2.length + unf st.1 ∧ (bRow E a st n).1.length = 6 ∧ (bRow E a st n).1.getD a 0 = st.1.getD a 0
  | 0, _ => ⟨rfl, hl, rfl⟩
  | n + 1, hn => by
    obtain ⟨h1, h2, h3⟩ := bRow_meas (E := E) hl ha n (by omega)
    rw [bRow_succ]
    generalize bRow E a st n = st' at h1 h2 h3 ⊢
    unfold bStep
    by_cases hc : E n a = true ∧ st'.1.getD n 0 < 0
    · rw [if_pos hc]
      have hu := unf_set (v := st'.1.getD a 0 + 1) (show n < st'.1.length by rw [h2]; omega) hc.2 (by omega)
      refine ⟨by simp only [List.length_append, List.length_singleton]; omega, by simpa using h2, ?_⟩
      simp only
      rw [getD_set6 (by rw [h2]; omega), if_neg (fun e => by subst e; omega)]
      exact h3
    · rw [if_neg hc]; exact ⟨h1, h2, h3⟩

/-! ### The way back -/
def stepW (E : Nat → Nat → Bool) (far : List Int) (l : Int) (a : Nat) : Nat := ((List.range 6).find? (fun j => E a j && far.getD j 0 == l)).getD a
def wayI (E : Nat → Nat → Bool) (far : List Int) : Nat → Nat → List Int
  | 0, _ => []
  | l + 1, a => (stepW E far ((l + 1 : Nat) : Int) a : Int) :: wayI E far l (stepW E far ((l + 1 : Nat) : Int) a)
theorem wayI_len (E : Nat → Nat → Bool) (far : List Int) : ∀ l a, (wayI E far l a).length = l
  | 0, _ => rfl
  | l + 1, a => by rw [wayI, List.length_cons, wayI_len E far l]
theorem find_range {p : Nat → Bool} : ∀ {n m : Nat}, m < n → p m = true → (∀ j, j < m → p j = false) → (List.range n).find? p = some m
  | 0, m, h, _, _ => absurd h (by omega)
  | n + 1, m, h, hm, hj => by
    rw [List.range_succ, List.find?_append]
    by_cases hmn : m = n
    · subst hmn
      rw [List.find?_eq_none.2 (fun x hx => by simp [hj x (List.mem_range.1 hx)])]
      simp [hm]
    · rw [find_range (show m < n by omega) hm hj]
      rfl
end Go.Proofs.YtnlicjgegclilaaDoor
