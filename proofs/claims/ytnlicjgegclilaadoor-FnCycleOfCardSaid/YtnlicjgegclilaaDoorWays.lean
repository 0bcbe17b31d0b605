/- Ways along edges: Warshall's closure, lengths of shortest ways, the search that goes out by layers. No program in sight. -/
import Derived.Test.YtnlicjgegclilaaDoorBase
namespace Go.Proofs.YtnlicjgegclilaaDoor
open Go.RowKit

/-- A way of one edge or more, all numbers between its ends below k. -/
inductive Via (E : Nat → Nat → Bool) (k : Nat) : Nat → Nat → Prop
  | edge {i j : Nat} : E i j = true → Via E k i j
  | step {i m j : Nat} : Via E k i m → m < k → Via E k m j → Via E k i j
theorem Via.up {E : Nat → Nat → Bool} {k k' : Nat} (hk : k ≤ k') {i j : Nat} (h : Via E k i j) : Via E k' i j := by
  induction h with
  | edge h => exact .edge h
  | step _ hm _ h1 h2 => exact .step h1 (by omega) h2
theorem via_succ {E : Nat → Nat → Bool} {k i j : Nat} : Via E (k + 1) i j ↔ Via E k i j ∨ (Via E k i k ∧ Via E k k j) := by
  constructor
  · intro h
    induction h with
    | edge h => exact .inl (.edge h)
    | @step i m j _ hm _ h1 h2 =>
      by_cases hmk : m = k
      · subst hmk
        rcases h1 with h1 | ⟨h1, _⟩ <;> rcases h2 with h2 | ⟨_, h2⟩ <;> exact .inr ⟨h1, h2⟩
      · have hm : m < k := by omega
        rcases h1 with h1 | ⟨h1, h1'⟩ <;> rcases h2 with h2 | ⟨h2, h2'⟩
        · exact .inl (.step h1 hm h2)
        · exact .inr ⟨.step h1 hm h2, h2'⟩
        · exact .inr ⟨h1, .step h1' hm h2⟩
        · exact .inr ⟨h1, h2'⟩
  · rintro (h | ⟨h1, h2⟩)
    · exact h.up (Nat.le_succ k)
    · exact .step (h1.up (Nat.le_succ k)) (Nat.lt_succ_self k) (h2.up (Nat.le_succ k))
/-- One round of the closure. -/
def wRow (M : Nat → Nat) (k : Nat) : Nat → Nat := fun i => if (M i).testBit k then M i ||| M k else M i
def wN (M : Nat → Nat) : Nat → Nat → Nat
  | 0 => M
  | k + 1 => wRow (wN M k) k
/-- A round that has come to row n. -/
def wPart (M : Nat → Nat) (k n : Nat) : Nat → Nat := fun i => if i < n then wRow M k i else M i
theorem wRow_self (M : Nat → Nat) (k : Nat) : wRow M k k = M k := by
  unfold wRow; split <;> simp
theorem wPart_self (M : Nat → Nat) (k n : Nat) : wPart M k n k = M k := by
  unfold wPart; split
  · exact wRow_self M k
  · rfl
theorem wPart_at (M : Nat → Nat) (k n : Nat) : wPart M k n n = M n := by
  unfold wPart; rw [if_neg (Nat.lt_irrefl n)]
theorem wPart_succ (M : Nat → Nat) (k n : Nat) : wPart M k (n + 1) = fun i => if i = n then wRow M k n else wPart M k n i := by
  funext i
  unfold wPart
  by_cases h : i = n
  · subst h; simp
  · rw [if_neg h]
    by_cases h2 : i < n
    · rw [if_pos h2, if_pos (by omega)]
    · rw [if_neg h2, if_neg (by omega)]
theorem wRow_lt {M : Nat → Nat} (h : ∀ i, M i < 64) (k i : Nat) : wRow M k i < 64 := by
  unfold wRow; split
  · exact Nat.or_lt_two_pow (n := 6) (h i) (h k)
  · exact h i
theorem wN_lt {M : Nat → Nat} (h : ∀ i, M i < 64) : ∀ k i, wN M k i < 64
  | 0, i => h i
  | k + 1, i => wRow_lt (wN_lt h k) k i
theorem wPart_lt {M : Nat → Nat} (h : ∀ i, M i < 64) (k n i : Nat) : wPart M k n i < 64 := by
  unfold wPart; split
  · exact wRow_lt h k i
  · exact h i
def bitE (M : Nat → Nat) : Nat → Nat → Bool := fun i j => (M i).testBit j
theorem wN_via (M : Nat → Nat) : ∀ k i j, (wN M k i).testBit j = true ↔ Via (bitE M) k i j
  | 0, i, j => by
    constructor
    · intro h; exact .edge h
    · intro h
      cases h with
      | edge h => exact h
      | step _ h _ => omega
  | k + 1, i, j => by
    rw [via_succ, ← wN_via M k i j, ← wN_via M k i k, ← wN_via M k k j]
    show (wRow (wN M k) k i).testBit j = true ↔ _
    unfold wRow
    cases h : (wN M k i).testBit k with
    | true => simp
    | false => simp

/-- A way of l edges from n to s. -/
def Wk (E : Nat → Nat → Bool) (s : Nat) : Nat → Nat → Prop
  | 0, n => n = s
  | l + 1, n => ∃ m, E n m = true ∧ Wk E s l m
theorem Wk.comp {E : Nat → Nat → Bool} {m s b : Nat} (h2 : Wk E s b m) : ∀ {a n : Nat}, Wk E m a n → Wk E s (a + b) n
  | 0, n, h => by
    have : n = m := h
    subst this
    rwa [Nat.zero_add]
  | a + 1, n, ⟨x, hx, h⟩ => by
    rw [Nat.succ_add]
    exact ⟨x, hx, Wk.comp h2 h⟩
theorem Via.wk {E : Nat → Nat → Bool} {k i j : Nat} (h : Via E k i j) : ∃ l, Wk E j (l + 1) i := by
  induction h with
  | @edge i j h => exact ⟨0, j, h, rfl⟩
  | @step i m j _ _ _ h1 h2 =>
    obtain ⟨a, ha⟩ := h1
    obtain ⟨b, hb⟩ := h2
    exact ⟨a + 1 + b, hb.comp ha⟩
theorem Wk.via {E : Nat → Nat → Bool} {N s : Nat} (hE : ∀ i j, E i j = true → j < N) : ∀ {l n : Nat}, Wk E s (l + 1) n → Via E N n s
  | 0, n, ⟨m, hm, h⟩ => by
    have : m = s := h
    subst this
    exact .edge hm
  | l + 1, n, ⟨m, hm, h⟩ => .step (.edge hm) (hE n m hm) (Wk.via hE h)
/-- The shortest ways of one edge or more have l edges. -/
def Sh1 (E : Nat → Nat → Bool) (s n l : Nat) : Prop := 1 ≤ l ∧ Wk E s l n ∧ ∀ l', 1 ≤ l' → l' < l → ¬ Wk E s l' n
/-- The shortest ways have l edges. -/
def Sh (E : Nat → Nat → Bool) (s n l : Nat) : Prop := Wk E s l n ∧ ∀ l', l' < l → ¬ Wk E s l' n
section
variable {E : Nat → Nat → Bool} {s : Nat}
theorem Sh1.uniq {n a b : Nat} (h : Sh1 E s n a) (h' : Sh1 E s n b) : a = b := by
  rcases Nat.lt_trichotomy a b with hl | hl | hl
  · exact absurd h.2.1 (h'.2.2 a h.1 hl)
  · exact hl
  · exact absurd h'.2.1 (h.2.2 b h'.1 hl)
theorem Sh.uniq {n a b : Nat} (h : Sh E s n a) (h' : Sh E s n b) : a = b := by
  rcases Nat.lt_trichotomy a b with hl | hl | hl
  · exact absurd h.1 (h'.2 a hl)
  · exact hl
  · exact absurd h'.1 (h.2 b hl)
theorem least_exists (p : Nat → Prop) : ∀ n, p n → ∃ m, m ≤ n ∧ p m ∧ ∀ m', m' < m → ¬ p m' := by
  intro n
  induction n using Nat.strongRecOn with
  | _ n ih =>
    intro hp
    by_cases h : ∃ m, m < n ∧ p m
    · obtain ⟨m, hm, hpm⟩ := h
      obtain ⟨m', h1, h2, h3⟩ := ih m hm hpm
      exact ⟨m', by omega, h2, h3⟩
    · exact ⟨n, Nat.le_refl n, hp, fun m' hm' hpm' => h ⟨m', hm', hpm'⟩⟩
theorem Wk.sh1 {n l : Nat} (h : Wk E s (l + 1) n) : ∃ l', l' ≤ l + 1 ∧ Sh1 E s n l' := by
  obtain ⟨m, h1, ⟨h2, h3⟩, h4⟩ := least_exists (fun x => 1 ≤ x ∧ Wk E s x n) (l + 1) ⟨by omega, h⟩
  exact ⟨m, h1, h2, h3, fun l' a b c => h4 l' b ⟨a, c⟩⟩
theorem Wk.sh {n l : Nat} (h : Wk E s l n) : ∃ l', l' ≤ l ∧ Sh E s n l' := by
  obtain ⟨m, h1, h2, h3⟩ := least_exists (fun x => Wk E s x n) l h
  exact ⟨m, h1, h2, h3⟩
theorem Sh.sh1 {n l : Nat} (h : Sh E s n (l + 1)) : Sh1 E s n (l + 1) := ⟨by omega, h.1, fun l' _ b => h.2 l' b⟩
theorem Sh1.sh {n l : Nat} (h : Sh1 E s n l) (hn : n ≠ s) : Sh E s n l := ⟨h.2.1, fun l' b => by
  match l', b with
  | 0, _ => exact hn
  | l' + 1, b => exact h.2.2 (l' + 1) (by omega) b⟩
/-- The next number on a shortest way. -/
theorem Sh1.next {n l : Nat} (h : Sh1 E s n (l + 1)) : ∃ m, E n m = true ∧ Sh E s m l := by
  obtain ⟨m, hm, hw⟩ := h.2.1
  refine ⟨m, hm, hw, fun l' hl hw' => h.2.2 (l' + 1) (by omega) (by omega) ⟨m, hm, hw'⟩⟩
theorem Sh.below {N n l : Nat} (hE : ∀ i j, E i j = true → i < N ∧ j < N) (h : Sh E s n l) (hs : s < N) : n < N := by
  match l, h with
  | 0, h =>
    have : n = s := h.1
    omega
  | l + 1, h =>
    obtain ⟨m, hm, _⟩ := h.1
    exact (hE n m hm).1
end
/-- Different numbers below N: at most N. -/
theorem nodup_below : ∀ (N : Nat) (l : List Nat), l.Nodup → (∀ x ∈ l, x < N) → l.length ≤ N
  | 0, l, _, h => by
    cases l with
    | nil => simp
    | cons x l => exact absurd (h x (by simp)) (by omega)
  | N + 1, l, hn, h => by
    have h1 := nodup_below N (l.erase N) (hn.erase _) (fun x hx => by
      have h2 := h x (List.mem_of_mem_erase hx)
      have h3 : x ≠ N := fun e => by
        subst e
        exact (List.Nodup.not_mem_erase hn) hx
      omega)
    by_cases hm : N ∈ l
    · have := List.length_erase_of_mem hm
      omega
    · rw [List.erase_of_not_mem hm] at h1
      omega
/-- The numbers on a shortest way: one of each length. -/
theorem Sh.chain {E : Nat → Nat → Bool} {s N : Nat} (hE : ∀ i j, E i j = true → i < N ∧ j < N) (hs : s < N) : ∀ {l n : Nat}, Sh E s n l → ∃ ns : List Nat, ns.length = l + 1 ∧ ns.Nodup ∧ (∀ x ∈ ns, x < N) ∧ ∀ x ∈ ns, ∃ l', l' ≤ l ∧ Sh E s x l'
  | 0, n, h => ⟨[n], rfl, by simp, by simpa using h.below hE hs, fun x hx => ⟨0, Nat.le_refl _, by simp at hx; subst hx; exact h⟩⟩
  | l + 1, n, h => by
    obtain ⟨m, _, hm⟩ := h.sh1.next
    obtain ⟨ns, h1, h2, h3, h4⟩ := Sh.chain hE hs hm
    refine ⟨n :: ns, by simp [h1], List.nodup_cons.2 ⟨fun hmem => ?_, h2⟩, fun x hx => ?_, fun x hx => ?_⟩
    · obtain ⟨l', hl', hsh⟩ := h4 n hmem
      have := h.uniq hsh
      omega
    · rcases List.mem_cons.1 hx with rfl | hx
      · exact h.below hE hs
      · exact h3 x hx
    · rcases List.mem_cons.1 hx with rfl | hx
      · exact ⟨l + 1, Nat.le_refl _, h⟩
      · obtain ⟨l', hl', hsh⟩ := h4 x hx
        exact ⟨l', by omega, hsh⟩
theorem Sh.lt {E : Nat → Nat → Bool} {s N n l : Nat} (hE : ∀ i j, E i j = true → i < N ∧ j < N) (hs : s < N) (h : Sh E s n l) : l < N := by
  obtain ⟨ns, h1, h2, h3, _⟩ := h.chain hE hs
  have := nodup_below N ns h2 h3
  omega
end Go.Proofs.YtnlicjgegclilaaDoor
