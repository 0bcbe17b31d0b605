/- The cycle that the program names is a right one, and begins with its least number. No program in sight. -/
import Derived.Test.YtnlicjgegclilaaDoorCycEq
import Derived.Test.YtnlicjgegclilaaDoorCycImpl
import Derived.Test.YtnlicjgegclilaaDoorTopM
namespace Go.Proofs.YtnlicjgegclilaaDoor
open Go.RowKit
set_option linter.unusedVariables false
set_option linter.unusedSimpArgs false

theorem way_list {xs : List Edge} {n s b : Nat} {far : List Int} (hn : n ≤ 6) (hv : xs.all (edgeOk (n : Int)) = true) (hs : s < n) (hI : FarI (edgE xs) s far) (hb : Sh1 (edgE xs) s s (b + 1)) : ∀ l a : Nat, l ≤ b → Sh1 (edgE xs) s a (l + 1) →
    ∃ ms : List Nat, wayI (edgE xs) far l a = ms.map (fun n : Nat => (n : Int)) ∧ ms.length = l ∧ (∀ i, i < l → Sh1 (edgE xs) s (ms.getD i 0) (l - i) ∧ ms.getD i 0 ≠ s ∧ ms.getD i 0 < n) ∧ ∀ i, i < l + 1 → edgE xs ((a :: ms).getD i 0) ((ms ++ [s]).getD i 0) = true
  | 0, a, _, ha => by
    obtain ⟨m, hm, he⟩ := ha.next
    have : m = s := he.1
    subst this
    refine ⟨[], rfl, rfl, fun i hi => absurd hi (by omega), fun i hi => ?_⟩
    obtain rfl : i = 0 := by omega
    exact hm
  | l + 1, a, hl, ha => by
    obtain ⟨m, hmn, hE, hsm, hms, _, h2⟩ := step_eq hn hv hs hI hb hl ha
    obtain ⟨ms, h3, h4, h5, h6⟩ := way_list hn hv hs hI hb l m (by omega) hsm
    refine ⟨m :: ms, by rw [wayI, h2, h3]; rfl, by simp [h4], fun i hi => ?_, fun i hi => ?_⟩
    · cases i with
      | zero => exact ⟨by simpa using hsm, hms, hmn⟩
      | succ i =>
        have := h5 i (by omega)
        rw [show l + 1 - (i + 1) = l - i by omega]
        exact this
    · cases i with
      | zero => exact hE
      | succ i => exact h6 i (by omega)
theorem edgE_irr {xs : List Edge} {n : Nat} (hv : xs.all (edgeOk (n : Int)) = true) (i : Nat) : edgE xs i i = false := by
  cases h : edgE xs i i with
  | false => rfl
  | true =>
    obtain ⟨e, he, h1, h2⟩ := edgE_ex.1 h
    have h3 := List.all_eq_true.1 hv e he
    unfold edgeOk at h3
    simp [h1, h2] at h3
theorem getD_mapI (ns : List Nat) (k : Nat) : (ns.map (fun n : Nat => (n : Int))).getD k 0 = ((ns.getD k 0 : Nat) : Int) := by
  simp only [List.getD_eq_getElem?_getD, List.getElem?_map]
  cases ns[k]? <;> simp
/-- All that is asked of the cycle that begins with s. -/
theorem back_good {xs : List Edge} {n s : Nat} {far : List Int} (hn : n ≤ 6) (hv : edgesV (n : Int) xs = true) (hs : s < n) (hI : FarI (edgE xs) s far) (hw : ∃ l, Wk (edgE xs) s (l + 1) s) (hmin : ∀ j, j < s → ∀ l, ¬ Wk (edgE xs) j (l + 1) j) :
    cycV (n : Int) xs (backL (edgE xs) far s) = true ∧ (backL (edgE xs) far s).getD 0 0 = (s : Int) ∧ ∀ k, 1 ≤ k → k < (backL (edgE xs) far s).length → (s : Int) < (backL (edgE xs) far s).getD k 0 := by
  have hall : xs.all (edgeOk (n : Int)) = true := by
    unfold edgesV at hv
    simp only [Bool.and_eq_true] at hv
    exact hv.2
  obtain ⟨l0, hw⟩ := hw
  obtain ⟨l1, _, hsh⟩ := hw.sh1
  obtain ⟨b, rfl⟩ : ∃ b, l1 = b + 1 := ⟨l1 - 1, by have := hsh.1; omega⟩
  have hfs := (hI.is s (by omega) (b + 1) (by omega)).2 hsh
  obtain ⟨ms, h1, h2, h3, h4⟩ := way_list hn hall hs hI hsh b s (Nat.le_refl _) hsh
  have hx : backL (edgE xs) far s = (s :: ms).map (fun n : Nat => (n : Int)) := by
    unfold backL
    rw [hfs, show (((b + 1 : Nat) : Int) - 1).toNat = b by omega, h1]
    rfl
  have hb1 : 1 ≤ b := by
    rcases Nat.eq_zero_or_pos b with rfl | h
    · obtain ⟨m, hm, he⟩ := hsh.next
      have : m = s := he.1
      subst this
      rw [edgE_irr hall] at hm
      cases hm
    · exact h
  have hlen : ((s :: ms).map (fun n : Nat => (n : Int))).length = b + 1 := by simp [h2]
  have hns : ∀ i, i < b + 1 → Sh1 (edgE xs) s ((s :: ms).getD i 0) (b + 1 - i) := fun i hi => by
    cases i with
    | zero => exact hsh
    | succ i =>
      have := (h3 i (by omega)).1
      rw [show b + 1 - (i + 1) = b - i by omega]
      exact this
  have hnx : ∀ k, k < b + 1 → (s :: ms).getD ((k + 1) % (b + 1)) 0 = (ms ++ [s]).getD k 0 := fun k hk => by
    by_cases hkb : k = b
    · subst hkb
      rw [Nat.mod_self, List.getD_eq_getElem?_getD, List.getD_eq_getElem?_getD, List.getElem?_append_right (by omega), h2]
      simp
    · rw [Nat.mod_eq_of_lt (by omega), List.getD_cons_succ, List.getD_eq_getElem?_getD, List.getD_eq_getElem?_getD, List.getElem?_append_left (by omega)]
  have hwk : ∀ k, k < b + 1 → Wk (edgE xs) ((s :: ms).getD k 0) k s := fun k => by
    induction k with
    | zero => intro _; rfl
    | succ k ih =>
      intro hk
      have he := h4 k (by omega)
      rw [← hnx k (by omega), Nat.mod_eq_of_lt (by omega)] at he
      have : Wk (edgE xs) ((s :: ms).getD (k + 1) 0) 1 ((s :: ms).getD k 0) := ⟨_, he, rfl⟩
      exact this.comp (ih (by omega))
  rw [hx]
  refine ⟨?_, rfl, fun k hk1 hk2 => ?_⟩
  · unfold cycV
    rw [hv, cyc_eq]
    unfold cycI
    rw [show decide (2 ≤ ((s :: ms).map (fun n : Nat => (n : Int))).length) = true by rw [hlen]; simp; omega]
    simp only [Bool.true_and]
    refine range_upto fun k hk => ?_
    rw [hlen] at hk
    unfold stepI
    rw [hlen]
    unfold at_
    rw [getD_mapI, getD_mapI, hnx k hk]
    have he := h4 k hk
    unfold edgE at he
    rw [he, Bool.true_and]
    simp only [Bool.not_eq_true', List.any_eq_false, beq_iff_eq]
    intro y hy hye
    rw [List.mem_take_iff_getElem] at hy
    obtain ⟨j, hj, rfl⟩ := hy
    have hjk : j < k := by omega
    have hj2 : ((s :: ms).map (fun n : Nat => (n : Int))).getD j 0 = ((s :: ms).getD k 0 : Nat) := by
      rw [List.getD_eq_getElem?_getD, List.getElem?_eq_getElem (by omega)]
      exact hye
    rw [getD_mapI] at hj2
    have hj3 : (s :: ms).getD j 0 = (s :: ms).getD k 0 := by omega
    have h5 := hns j (by omega)
    have h6 := hns k hk
    rw [hj3] at h5
    have := h5.uniq h6
    omega
  · rw [hlen] at hk2
    rw [getD_mapI]
    obtain ⟨j, rfl⟩ : ∃ j, k = j + 1 := ⟨k - 1, by omega⟩
    have h5 := h3 j (by omega)
    have h6 := hns (j + 1) hk2
    have h7 := hwk (j + 1) hk2
    have h8 := h7.comp h6.2.1
    have h9 : (s :: ms).getD (j + 1) 0 = ms.getD j 0 := List.getD_cons_succ
    rw [h9] at h8 ⊢
    rw [show b + 1 - (j + 1) + (j + 1) = b + 1 by omega] at h8
    rcases Nat.lt_trichotomy (ms.getD j 0) s with h | h | h
    · exact absurd h8 (hmin _ h b)
    · exact absurd h h5.2.1
    · omega
theorem farI_ex (E : Nat → Nat → Bool) (s : Nat) : ∃ far, FarI E s far := by
  classical
  refine ⟨(List.range 6).map fun k => if h : ∃ l, Sh1 E s k l then ((Classical.choose h : Nat) : Int) else -1, by simp, fun k hk l hl => ?_⟩
  have he : ((List.range 6).map fun k => if h : ∃ l, Sh1 E s k l then ((Classical.choose h : Nat) : Int) else -1).getD k 0 = if h : ∃ l, Sh1 E s k l then ((Classical.choose h : Nat) : Int) else -1 := by
    simp [List.getD_eq_getElem?_getD, hk]
  rw [he]
  by_cases h : ∃ l, Sh1 E s k l
  · rw [dif_pos h]
    have hc := Classical.choose_spec h
    refine ⟨fun e => ?_, fun hs => by rw [hc.uniq hs]⟩
    have : Classical.choose h = l := by omega
    rw [← this]; exact hc
  · rw [dif_neg h]
    exact ⟨fun e => by omega, fun hs => absurd ⟨l, hs⟩ h⟩
/-- What the law of cycles says. -/
theorem cycO_good (many : Int) (xs : List Edge) (hv : edgesV many xs = true) :
    ((cycO many xs = [] ∧ (topD (edgE xs) many.toNat many.toNat).isSome = true) ∨ (cycO many xs ≠ [] ∧ (topD (edgE xs) many.toNat many.toNat).isSome = false ∧ cycV many xs (cycO many xs) = true ∧ ∀ k, 1 ≤ k → k < (cycO many xs).length → (cycO many xs).getD 0 0 < (cycO many xs).getD k 0)) := by
  have hv' := hv
  unfold edgesV at hv'
  simp only [Bool.and_eq_true, inR_iff] at hv'
  obtain ⟨n, rfl⟩ : ∃ n : Nat, many = (n : Int) := ⟨many.toNat, by omega⟩
  have hn : n ≤ 6 := by omega
  have hc : cycO (n : Int) xs = cycFrom xs n n 0 := by unfold cycO; rw [if_pos hv, Int.toNat_natCast]
  rw [hc, Int.toNat_natCast]
  have hE := edgE_in hv'.2
  rcases cycFrom_eq hn hv'.2 n 0 (by omega) with ⟨h1, h2⟩ | ⟨i, _, h2, h3, h4, h5⟩
  · obtain ⟨s, hs⟩ := topD_some hE (fun i hi => h2 i (by omega) hi) n (Nat.le_refl _)
    exact .inl ⟨h1, by rw [hs]; rfl⟩
  · have hb := (bfs0 (E := edgE xs) (s := i) 6 (Nat.le_refl _)).bfs
    obtain ⟨far, hI⟩ := farI_ex (edgE xs) i
    have hg := back_good hn hv h2 hI h3 (fun j hj => h4 j (by omega) hj)
    rw [← h5 far hI] at hg
    obtain ⟨g1, g2, g3⟩ := hg
    refine .inr ⟨fun e => by rw [e] at g1; unfold cycV at g1; simp at g1, ?_, g1, fun k hk1 hk2 => by rw [g2]; exact g3 k hk1 hk2⟩
    cases ht : topD (edgE xs) n n with
    | none => rfl
    | some s =>
      obtain ⟨l, hl⟩ := h3
      exact absurd hl (top_acyclic hE (topD_ok hE n s ht) i h2 l)
end Go.Proofs.YtnlicjgegclilaaDoor
