/- The program's HistoryValid. -/
import Derived.Test.YtmlbfhknapkhgaaDoorWriters
namespace Go.Proofs.YtmlbfhknapkhgaaDoor
open Go.RowKit Go.Maps
set_option linter.unusedVariables false
set_option linter.unusedSimpArgs false

theorem num_count (p : Op → Bool) : ∀ (h : List Txn) (i : Nat), (num h i).countP (fun q => p q.2) = tot (fun x : Txn => x.Ops.countP p) h
  | [], i => rfl
  | t :: r, i => by
    have h1 := num_count p r (i + 1)
    simp only [num, List.countP_append, List.countP_map, h1, tot, List.map_cons, List.sum_cons]
    rfl
theorem num_mem {h : List Txn} : ∀ {i : Nat} {q : Nat × Op}, q ∈ num h i → ∃ t ∈ h, q.2 ∈ t.Ops := by
  induction h with
  | nil => intro i q hq; cases hq
  | cons t r ih =>
    intro i q hq
    rcases List.mem_append.1 hq with hq | hq
    · obtain ⟨o, ho, rfl⟩ := List.mem_map.1 hq
      exact ⟨t, List.mem_cons_self, ho⟩
    · obtain ⟨t', ht, ho⟩ := ih hq
      exact ⟨t', List.mem_cons_of_mem _ ht, ho⟩
theorem mem_num {h : List Txn} : ∀ {i : Nat} {t : Txn} {o : Op}, t ∈ h → o ∈ t.Ops → ∃ n, (n, o) ∈ num h i := by
  induction h with
  | nil => intro i t o ht; cases ht
  | cons t0 r ih =>
    intro i t o ht ho
    rcases List.mem_cons.1 ht with rfl | ht
    · exact ⟨i, List.mem_append_left _ (List.mem_map.2 ⟨o, ho, rfl⟩)⟩
    · obtain ⟨n, hn⟩ := ih (i := i + 1) ht ho
      exact ⟨n, List.mem_append_right _ hn⟩
theorem look_none {l : List (Nat × Op)} {x y : Int} : look l x y = none ↔ l.countP (fun q => isW x y q.2) = 0 := by
  unfold look
  rw [Option.map_eq_none_iff, List.find?_eq_none, List.countP_eq_zero]
theorem fresh_iff (l : List (Nat × Op)) : Fresh l ↔ ∀ q ∈ l, q.2.Kind = 2 → l.countP (fun r => isW q.2.Key q.2.Value r.2) ≤ 1 := by
  constructor
  · intro hF q hq hk
    have hc : ∀ i, i ≤ l.length → (l.take i).countP (fun r => isW q.2.Key q.2.Value r.2) ≤ 1 := by
      intro i
      induction i with
      | zero => intro _; simp
      | succ i ih =>
        intro hi
        rw [countP_take _ _ _ (by omega)]
        have h1 := ih (by omega)
        split
        · rename_i hw
          have hw2 := hw
          simp only [isW, Bool.and_eq_true, beq_iff_eq] at hw2
          have h2 := hF i (by omega) hw2.1.1
          rw [hw2.1.2, hw2.2, look_none] at h2
          omega
        · omega
    have := hc l.length (Nat.le_refl _)
    rwa [List.take_length] at this
  · intro h i hi hk
    have h1 := h l[i] (List.getElem_mem hi) hk
    rw [look_none]
    have h2 := countP_take (fun r : Nat × Op => isW l[i].2.Key l[i].2.Value r.2) l i hi
    rw [if_pos (by simp [isW, hk])] at h2
    have h3 := (List.take_sublist (i + 1) l).countP_le (p := fun r : Nat × Op => isW l[i].2.Key l[i].2.Value r.2)
    omega
theorem fresh_hist {xs : List Txn} (hl : xs.length ≤ 6) (hv : ∀ t ∈ xs, txnOk t = true) : Fresh (num xs 0) ↔ histV xs = true := by
  rw [fresh_iff]
  unfold histV
  simp only [Bool.and_eq_true, List.all_eq_true, decide_eq_true_eq, hl, and_true]
  constructor
  · intro h t ht
    unfold txnFine
    rw [hv t ht, Bool.true_and, List.all_eq_true]
    intro o ho
    obtain ⟨n, hn⟩ := mem_num (i := 0) ht ho
    have h1 : o.Kind = 2 → (num xs 0).countP (fun r => isW o.Key o.Value r.2) ≤ 1 := h _ hn
    unfold opFine
    by_cases hk : o.Kind = 2
    · have h2 := h1 hk
      rw [num_count] at h2
      have h3 : ¬ 1 < writesN xs o.Key o.Value := by unfold writesN; omega
      simp [h3]
    · simp [hk]
  · intro h q hq hk
    obtain ⟨t, ht, ho⟩ := num_mem hq
    have h1 := h t ht
    unfold txnFine at h1
    rw [Bool.and_eq_true, List.all_eq_true] at h1
    have h2 := h1.2 _ ho
    unfold opFine at h2
    rw [num_count]
    simp only [hk, beq_self_eq_true, Bool.true_and, Bool.not_eq_true', decide_eq_false_iff_not] at h2
    unfold writesN at h2
    omega
set_option maxRecDepth 10000 in
set_option maxHeartbeats 1000000 in
theorem implHistoryValid (xs : List Txn) (A : Option Addr) (c : Nat) (w : World) (hm : xs.length ≤ maxLen) (hA : Row tTxn w (Old w) A xs) :
    Calls Tryd.prog 37 #[.slice A xs.length c] w fun e w' => e = .returned (.bool (histV xs)) ∧ Below w.heap.size w w' := by
  by_cases h6 : xs.length ≤ 6
  · have hcont := hide (cont_Txn xs A c w 60 #[] (fun x => !txnOk x) (enters_of Tryd.func60 (by kernel_rfl) rfl) hm hA
      (fun x _ cs hr W hW => by
        obtain ⟨v, rfl, A2, c2, rfl, h1, h2, h3⟩ := hr
        exact (txnLit x A2 c2 W (Nat.le_trans h1 h2) (h3.old hW)).mono (by rintro e w' ⟨rfl, hb⟩; exact ⟨rfl, hW.trans (hb.mono hW.size)⟩)))
    have hm' : xs.length ≤ 9223372036854775807 := by omega
    cases hq : xs.any (fun x => !txnOk x) with
    | true =>
      have HR := hide (show histV xs = false by
        obtain ⟨t, ht, h1⟩ := List.any_eq_true.1 hq
        cases hv : histV xs with
        | false => rfl
        | true =>
          unfold histV at hv
          simp only [Bool.and_eq_true, List.all_eq_true] at hv
          have h2 := hv.1 t ht
          unfold txnFine at h2
          rw [Bool.and_eq_true] at h2
          rw [h2.1] at h1
          cases h1)
      rw [hq] at hcont
      clear hA hq hm
      go_enter Tryd.func37, Tryd.ntmps37
      go_wp2_with (go_at_call 59; refine hcont.out.mono ?_; rintro e w' ⟨rfl, hb'⟩)
      go_ret
      exact ⟨ret_bool HR.out.symm, hb'⟩
    | false =>
      have hv : ∀ t ∈ xs, txnOk t = true := fun t ht => by
        have := List.any_eq_false.1 hq t ht
        simpa using this
      have HF := hide (fresh_hist h6 hv)
      have HW := hide (fun W (hb : Below w.heap.size w W) => writers_any xs A c W h6 (hA.old hb) hv)
      rw [hq] at hcont
      clear hA hq hv hm
      go_enter Tryd.func37, Tryd.ntmps37
      go_wp2_with (go_at_call 59; refine hcont.out.mono ?_; rintro e w' ⟨rfl, hb'⟩; have HB := hide hb'; clear hb')
      refine (HW.out _ HB.out).mono ?_
      rintro e w2 ⟨h, hb2⟩
      have HB2 := hide (HB.out.trans (hb2.mono HB.out.size))
      clear hb2
      rcases h with ⟨b, n, rfl, hF, _, _⟩ | ⟨rfl, hF⟩
      · have HR := hide (show histV xs = true from HF.out.1 hF)
        clear hF
        go_wp2_with fail
        go_ret
        exact ⟨ret_bool HR.out.symm, HB2.out⟩
      · have HR := hide (show histV xs = false by cases hv : histV xs with | false => rfl | true => exact absurd (HF.out.2 hv) hF)
        clear hF
        go_wp2_with fail
        go_ret
        exact ⟨ret_bool HR.out.symm, HB2.out⟩
  · have HR := hide (show histV xs = false by unfold histV; simp [h6])
    have h6' : (6 : Int) < (xs.length : Int) := by omega
    clear hA
    unfold maxLen at hm
    go_enter Tryd.func37, Tryd.ntmps37
    go_wp2
    go_ret
    exact ⟨ret_bool HR.out.symm, Below.refl _ _⟩
end Go.Proofs.YtmlbfhknapkhgaaDoor
