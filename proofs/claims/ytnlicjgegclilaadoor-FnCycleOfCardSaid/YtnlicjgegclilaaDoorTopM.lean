/- The order in which all edges lead forward: what the program's loops gather, and that there is one exactly if no way leads back. No program in sight. -/
import Derived.Test.YtnlicjgegclilaaDoorWays
namespace Go.Proofs.YtnlicjgegclilaaDoor
open Go.RowKit
set_option linter.unusedVariables false
set_option linter.unusedSimpArgs false

/-- Number i is free as far as the first k are looked at. -/
def freeK (E : Nat → Nat → Bool) (g i k : Nat) : Bool := !g.testBit i && (List.range k).all (fun j => g.testBit j || !E j i)
theorem freeK_succ (E : Nat → Nat → Bool) (g i k : Nat) : freeK E g i (k + 1) = (freeK E g i k && (g.testBit k || !E k i)) := by
  unfold freeK
  rw [List.range_succ, List.all_append, Bool.and_assoc]
  simp
/-- The least free number of the last d ones, or -1. -/
def nextD (E : Nat → Nat → Bool) (g many : Nat) : Nat → Int
  | 0 => -1
  | d + 1 => if freeK E g (many - 1 - d) many = true then ((many - 1 - d : Nat) : Int) else nextD E g many d
theorem nextD_spec (E : Nat → Nat → Bool) (g many : Nat) : ∀ d, d ≤ many → (nextD E g many d = -1 ∧ ∀ i, many - d ≤ i → i < many → freeK E g i many = false) ∨ ∃ i : Nat, nextD E g many d = (i : Int) ∧ many - d ≤ i ∧ i < many ∧ freeK E g i many = true
  | 0, _ => .inl ⟨rfl, fun i h1 h2 => absurd h1 (by omega)⟩
  | d + 1, hd => by
    rw [nextD]
    by_cases hc : freeK E g (many - 1 - d) many = true
    · rw [if_pos hc]; exact .inr ⟨_, rfl, by omega, by omega, hc⟩
    · rw [if_neg hc]
      rcases nextD_spec E g many d (by omega) with ⟨h1, h2⟩ | ⟨i, h1, h2, h3, h4⟩
      · refine .inl ⟨h1, fun i h3 h4 => ?_⟩
        by_cases hi : i = many - 1 - d
        · subst hi; simpa using hc
        · exact h2 i (by omega) h4
      · exact .inr ⟨i, h1, by omega, h3, h4⟩
/-- What has been gathered by k rounds: the numbers, and their bits. -/
def topD (E : Nat → Nat → Bool) (many : Nat) : Nat → Option (List Nat × Nat)
  | 0 => some ([], 0)
  | k + 1 => (topD E many k).bind fun s => if nextD E s.2 many many < 0 then none else some (s.1 ++ [(nextD E s.2 many many).toNat], s.2 ||| 2 ^ (nextD E s.2 many many).toNat)
structure TopOk (E : Nat → Nat → Bool) (many k : Nat) (s : List Nat × Nat) : Prop where
  len : s.1.length = k
  bits : ∀ j, s.2.testBit j = decide (j ∈ s.1)
  nodup : s.1.Nodup
  below : ∀ x ∈ s.1, x < many
  fwd : ∀ p n q, s.1 = p ++ n :: q → ∀ j, E j n = true → j ∈ p
theorem topD_ok {E : Nat → Nat → Bool} {many : Nat} (hE : ∀ i j, E i j = true → i < many ∧ j < many) : ∀ k s, topD E many k = some s → TopOk E many k s
  | 0, s, h => by
    have : s = ([], 0) := by simpa [topD, eq_comm] using h
    subst this
    exact ⟨rfl, fun j => by simp, List.nodup_nil, fun x hx => absurd hx (by simp), fun p n q h => absurd h (by simp)⟩
  | k + 1, s, h => by
    rw [topD] at h
    cases ht : topD E many k with
    | none => rw [ht] at h; cases h
    | some s' =>
      have ih := topD_ok hE k s' ht
      rw [ht] at h
      simp only [Option.bind_some] at h
      rcases nextD_spec E s'.2 many many (Nat.le_refl _) with ⟨h1, _⟩ | ⟨i, h1, _, h3, h4⟩
      · rw [h1] at h; simp at h
      · rw [h1] at h
        have hi : ¬ ((i : Int) < 0) := by omega
        rw [if_neg hi, Int.toNat_natCast] at h
        have hs : s = (s'.1 ++ [i], s'.2 ||| 2 ^ i) := by simpa [eq_comm] using h
        subst hs
        unfold freeK at h4
        simp only [Bool.and_eq_true, Bool.not_eq_true', List.all_eq_true, List.mem_range, Bool.or_eq_true] at h4
        have hni : i ∉ s'.1 := by
          have := ih.bits i
          rw [h4.1] at this
          simpa using this.symm
        refine ⟨by simp [ih.len], fun j => ?_, ?_, fun x hx => ?_, fun p n q hp j hj => ?_⟩
        · rw [Nat.testBit_or, ih.bits, Nat.testBit_two_pow]
          by_cases h5 : j ∈ s'.1
          · simp [h5]
          · by_cases h6 : i = j
            · subst h6; simp
            · simp [h5, h6, Ne.symm h6]
        · rw [List.nodup_append]
          exact ⟨ih.nodup, by simp, fun a ha b hb => by simp at hb; subst hb; rintro rfl; exact hni ha⟩
        · rcases List.mem_append.1 hx with hx | hx
          · exact ih.below x hx
          · simp at hx; subst hx; exact h3
        · rcases List.eq_nil_or_concat q with rfl | ⟨q', z, rfl⟩
          · have h6 : s'.1 = p ∧ i = n := by
              have : s'.1 ++ [i] = p ++ [n] := hp
              have := List.append_inj' this rfl
              exact ⟨this.1, by simpa using this.2⟩
            obtain ⟨rfl, rfl⟩ := h6
            have := h4.2 j (hE j i hj).1
            rw [hj] at this
            rcases this with h7 | h7
            · rw [ih.bits] at h7; simpa using h7
            · cases h7
          · have h6 : s'.1 = p ++ n :: q' := by
              have : s'.1 ++ [i] = (p ++ n :: q') ++ [z] := by simpa using hp
              exact (List.append_inj' this rfl).1
            exact ih.fwd p n q' h6 j hj
/-- A number that is reached by no other one of a list. -/
theorem minimal_ex {R : Nat → Nat → Prop} (htr : ∀ a b c, R a b → R b c → R a c) : ∀ (L : List Nat), L ≠ [] → (∀ x ∈ L, ¬ R x x) → ∃ x ∈ L, ∀ y ∈ L, ¬ R y x
  | [], h, _ => absurd rfl h
  | [x], _, h => ⟨x, by simp, fun y hy => by simp at hy; subst hy; exact h y (by simp)⟩
  | x :: z :: L, _, h => by
    obtain ⟨m, hm, hmin⟩ := minimal_ex htr (z :: L) (by simp) (fun y hy => h y (List.mem_cons_of_mem _ hy))
    by_cases hx : R x m
    · refine ⟨x, by simp, fun y hy => ?_⟩
      rcases List.mem_cons.1 hy with rfl | hy
      · exact h y (by simp)
      · exact fun hr => hmin y hy (htr _ _ _ hr hx)
    · refine ⟨m, List.mem_cons_of_mem _ hm, fun y hy => ?_⟩
      rcases List.mem_cons.1 hy with rfl | hy
      · exact hx
      · exact hmin y hy
theorem nodup_sub_len : ∀ (l o : List Nat), l.Nodup → (∀ x ∈ l, x ∈ o) → l.length ≤ o.length
  | [], _, _, _ => Nat.zero_le _
  | x :: l, o, hn, h => by
    rw [List.nodup_cons] at hn
    have hx := h x (by simp)
    have := nodup_sub_len l (o.erase x) hn.2 (fun y hy => by
      have hyx : y ≠ x := fun e => hn.1 (e ▸ hy)
      exact (List.mem_erase_of_ne hyx).2 (h y (List.mem_cons_of_mem _ hy)))
    have h2 := List.length_erase_of_mem hx
    have h3 := List.length_pos_of_mem hx
    simp only [List.length_cons]
    omega
theorem left_ex {many : Nat} {o : List Nat} (hn : o.Nodup) (hl : o.length < many) : ∃ i, i < many ∧ i ∉ o := by
  refine Classical.byContradiction fun h => ?_
  have hall : ∀ i, i < many → i ∈ o := fun i hi => Classical.byContradiction fun hno => h ⟨i, hi, hno⟩
  have : (List.range many).Nodup := List.nodup_range
  have hsub : ∀ x ∈ List.range many, x ∈ o := fun x hx => hall x (List.mem_range.1 hx)
  have := nodup_sub_len _ _ this hsub
  simp at this
  omega
theorem topD_some {E : Nat → Nat → Bool} {many : Nat} (hE : ∀ i j, E i j = true → i < many ∧ j < many) (hac : ∀ i, i < many → ∀ l, ¬ Wk E i (l + 1) i) : ∀ k, k ≤ many → ∃ s, topD E many k = some s
  | 0, _ => ⟨_, rfl⟩
  | k + 1, hk => by
    obtain ⟨s, hs⟩ := topD_some hE hac k (by omega)
    have ok := topD_ok hE k s hs
    rw [topD, hs]
    simp only [Option.bind_some]
    rcases nextD_spec E s.2 many many (Nat.le_refl _) with ⟨_, h2⟩ | ⟨i, h1, _, h3, h4⟩
    · exfalso
      obtain ⟨i0, h0, h0'⟩ := left_ex (many := many) ok.nodup (by rw [ok.len]; omega)
      have hne : (List.range many).filter (fun i => !decide (i ∈ s.1)) ≠ [] := fun he => by
        have : i0 ∈ (List.range many).filter (fun i => !decide (i ∈ s.1)) := by simp [h0, h0']
        rw [he] at this; cases this
      obtain ⟨x, hx, hmin⟩ := minimal_ex (R := fun a b => ∃ l, Wk E b (l + 1) a) (fun a b c ⟨l1, h1⟩ ⟨l2, h2⟩ => ⟨l1 + 1 + l2, h2.comp h1⟩) _ hne (fun y hy ⟨l, hl⟩ => hac y (by simp at hy; exact hy.1) l hl)
      have hxm : x < many ∧ x ∉ s.1 := by simpa using hx
      have := h2 x (by omega) hxm.1
      unfold freeK at this
      rw [ok.bits] at this
      simp only [hxm.2, decide_false, Bool.not_false, Bool.true_and] at this
      rw [List.all_eq_false] at this
      obtain ⟨j, hj, hq⟩ := this
      rw [ok.bits] at hq
      simp only [Bool.or_eq_true, decide_eq_true_eq, Bool.not_eq_true', not_or, Bool.not_eq_false] at hq
      exact hmin j (by simp [List.mem_range.1 hj, hq.1]) ⟨0, x, hq.2, rfl⟩
    · rw [h1, if_neg (by omega)]
      exact ⟨_, rfl⟩
/-- An order of all numbers in which the edges lead forward: no way leads back. -/
theorem top_acyclic {E : Nat → Nat → Bool} {many : Nat} {s : List Nat × Nat} (hE : ∀ i j, E i j = true → i < many ∧ j < many) (h : TopOk E many many s) : ∀ i, i < many → ∀ l, ¬ Wk E i (l + 1) i := by
  have hmem : ∀ i, i < many → i ∈ s.1 := fun i hi => Classical.byContradiction fun hno => by
    have hn : (i :: s.1).Nodup := List.nodup_cons.2 ⟨hno, h.nodup⟩
    have := nodup_below many (i :: s.1) hn (fun x hx => by
      rcases List.mem_cons.1 hx with rfl | hx
      · exact hi
      · exact h.below x hx)
    simp only [List.length_cons, h.len] at this
    omega
  have hpos : ∀ a b, a ∈ s.1 → b ∈ s.1 → E a b = true → s.1.idxOf a < s.1.idxOf b := fun a b ha hb hab => by
    obtain ⟨p, q, he, hp⟩ : ∃ p q, s.1 = p ++ b :: q ∧ b ∉ p := by
      have := List.append_of_mem hb
      obtain ⟨p, q, he⟩ := this
      refine ⟨p, q, he, fun hbp => ?_⟩
      have := h.nodup
      rw [he, List.nodup_append] at this
      exact this.2.2 b hbp b (by simp) rfl
    have hap := h.fwd p b q he a hab
    rw [he, List.idxOf_append, List.idxOf_append, if_pos hap, if_neg hp]
    have := List.idxOf_lt_length_of_mem hap
    omega
  intro i hi l hw
  have H : ∀ l n, n ∈ s.1 → Wk E i (l + 1) n → s.1.idxOf n < s.1.idxOf i := fun l => by
    induction l with
    | zero =>
      intro n hn ⟨m, hm, he⟩
      have : m = i := he
      subst this
      exact hpos n m hn (hmem m hi) hm
    | succ l ih =>
      intro n hn ⟨m, hm, hw⟩
      have hms : m ∈ s.1 := hmem m (hE n m hm).2
      exact Nat.lt_trans (hpos n m hn hms hm) (ih m hms hw)
  exact absurd (H l i (hmem i hi) hw) (by omega)
end Go.Proofs.YtnlicjgegclilaaDoor
